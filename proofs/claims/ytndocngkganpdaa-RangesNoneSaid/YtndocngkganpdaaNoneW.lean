/- The walk of RangesNone: the call returns true. -/
import Derived.Test.YtndocngkganpdaaRgAwk
set_option linter.unusedVariables false
namespace Go.Proofs.Ytndocngkganpdaa
open Go.RowKit
def nonB : List Pr := [⟨kRng, ⟨#[]⟩⟩, ⟨kReg, ⟨#[255, 255, 255, 255, 255, 255, 255, 255, 0, 0, 0, 1]⟩⟩]
def nonC : List Pr := [⟨kS, ⟨#[0, 0, 0, 3]⟩⟩, ⟨kReg, ⟨#[255, 255, 255, 255, 255, 255, 255, 255, 0, 0, 0, 2]⟩⟩]
def nonD : List Nd := [⟨-1, ⟨#[]⟩, []⟩, ⟨0, ⟨#[98]⟩, nonB⟩, ⟨1, ⟨#[99]⟩, nonC⟩]
def nonL (g : Nat) : List Nm := [⟨⟨-1, ⟨#[]⟩, []⟩, none, 0⟩, ⟨⟨0, ⟨#[98]⟩, nonB⟩, some ⟨g, 0, none⟩, 2⟩, ⟨⟨1, ⟨#[99]⟩, nonC⟩, some ⟨g + 1, 0, none⟩, 2⟩]
theorem non_dat (g : Nat) : dat (nonL g) = nonD := rfl
theorem non_sized (g : Nat) : Sized (nonL g) := by
  refine ⟨(by decide : 3 * 48 ≤ 140737488355328), ?_, ?_, ?_⟩
  · intro x hx
    rw [non_dat] at hx
    have h : ∀ x ∈ nonD, x.n.size ≤ 100 ∧ ∀ y ∈ x.ps, y.n.size ≤ 100 ∧ y.v.size ≤ 100 := by decide
    refine ⟨by have := (h x hx).1; omega, fun y hy => ?_⟩
    have := (h x hx).2 y hy
    omega
  · intro x hx
    have h : x.d.ps.length ≤ 100 := by
      simp only [nonL, List.mem_cons, List.not_mem_nil, or_false] at hx
      rcases hx with rfl | rfl | rfl
      · exact (by decide : 0 ≤ 100)
      · exact (by decide : 2 ≤ 100)
      · exact (by decide : 2 ≤ 100)
    omega
  · intro x hx
    simp only [nonL, List.mem_cons, List.not_mem_nil, or_false] at hx
    rcases hx with rfl | rfl | rfl
    · exact (by decide : (Lit.int .i64 (-1)).wf = true)
    · exact (by decide : (Lit.int .i64 0).wf = true)
    · exact (by decide : (Lit.int .i64 1).wf = true)
def nonW (w : World) : World := ((w.alloc (.cells (prCells nonB).toArray 54)).alloc (.cells (prCells nonC).toArray 54)).alloc (.cells (nmCells (nonL w.heap.size)).toArray 42)
theorem non_nodes (w : World) : Nodes (nonW w) (nonW w).heap.size (some ⟨w.heap.size + 2, 0, none⟩) (nonL w.heap.size) := by
  have hz : (nonW w).heap.size = w.heap.size + 3 := by unfold nonW; simp
  have h2 : (nonW w).heap[w.heap.size + 2]? = some (.cells (nmCells (nonL w.heap.size)).toArray 42 (0, 0)) := by
    have := heap_alloc_new ((w.alloc (.cells (prCells nonB).toArray 54)).alloc (.cells (prCells nonC).toArray 54)) (.cells (nmCells (nonL w.heap.size)).toArray 42)
    rw [show ((w.alloc (.cells (prCells nonB).toArray 54)).alloc (.cells (prCells nonC).toArray 54)).heap.size = w.heap.size + 2 from by simp] at this
    exact this
  have h1 : (nonW w).heap[w.heap.size + 1]? = some (.cells (prCells nonC).toArray 54 (0, 0)) := by
    have := heap_alloc_new (w.alloc (.cells (prCells nonB).toArray 54)) (.cells (prCells nonC).toArray 54)
    rw [show (w.alloc (.cells (prCells nonB).toArray 54)).heap.size = w.heap.size + 1 from by simp] at this
    exact (Below.heap_alloc _ _ _ (by simp)).trans this
  have h0 : (nonW w).heap[w.heap.size]? = some (.cells (prCells nonB).toArray 54 (0, 0)) := by
    have := heap_alloc_new w (.cells (prCells nonB).toArray 54)
    exact ((Below.heap_alloc _ _ _ (by simp; omega)).trans (Below.heap_alloc _ _ _ (by simp))).trans this
  refine ⟨seg_of_heap h2 (by omega), fun x hx => ?_⟩
  simp only [nonL, List.mem_cons, List.not_mem_nil, or_false] at hx
  rcases hx with rfl | rfl | rfl
  · exact Seg.nil
  · exact seg_of_heap h0 (by omega)
  · exact seg_of_heap h1 (by omega)
theorem non_below (w : World) : Below w.heap.size w (nonW w) := (((Below.refl _ w).alloc (Nat.le_refl _) _).alloc (by simp) _).alloc (by simp; omega) _
theorem nil_sized : Sized [] := ⟨by decide, (fun x hx => by cases hx), (fun x hx => by cases hx), (fun x hx => by cases hx)⟩
theorem nil_nodes (w : World) (B : Nat) : Nodes w B none [] := ⟨Seg.nil, fun x hx => by cases hx⟩
theorem v_1 : cellsE [] 0 = (0, 0, 40) := by kernel_rfl
theorem v_2 : regE nonD 0 = ([], 1) := by kernel_rfl
theorem v_3 : mapsE nonD 0 = ([], false, 1) := by kernel_rfl
theorem v_4 : upE nonD 0 0 0 = (0, 1) := by kernel_rfl
theorem v_5 : outE nonD 0 5 0 = (5, 0) := by kernel_rfl
theorem v_6 : outE nonD 0 18446744073709551615 2 = (0, 1) := by kernel_rfl
theorem v_7 : downE nonD 3 0 = (0, 1) := by kernel_rfl
theorem v_8 : winE nonD 1 = ([(18446744073709551615, 1)], 0) := by kernel_rfl
theorem v_9 : winE nonD 2 = ([], 4) := by kernel_rfl
theorem v_10 : cellsE nonD 2 = (0, 0, 4) := by kernel_rfl
theorem v_11 : ownE nonD 18446744073709551615 = (1, 0) := by kernel_rfl
set_option maxRecDepth 100000 in
set_option maxHeartbeats 16000000 in
theorem none_walk (w : World) : Calls Try.prog 6 #[] w fun e w' => e = .returned (.bool true) ∧ Below w.heap.size w w' := by
  obtain ⟨W, hW⟩ : ∃ W, W = nonW w := ⟨_, rfl⟩
  have hn := non_nodes w
  have hb := non_below w
  rw [← hW] at hn hb
  have C1 := fun w2 (h : Below W.heap.size W w2) => pcells_any none 0 0 [] rfl nil_sized 0 w2 W.heap.size h.size (nil_nodes _ _)
  rw [show dat ([] : List Nm) = [] from rfl, v_1] at C1
  have H1 := Lib.hid C1
  have C2 := fun w2 (h : Below W.heap.size W w2) => preg2_any (some ⟨w.heap.size + 2, 0, none⟩) 3 3 (nonL w.heap.size) rfl (non_sized _) 0 w2 W.heap.size h.size (hn.below h)
  rw [non_dat, v_2] at C2
  have H2 := Lib.hid C2
  have C3 := fun w2 (h : Below W.heap.size W w2) => pmaps_any (some ⟨w.heap.size + 2, 0, none⟩) 3 3 (nonL w.heap.size) rfl (non_sized _) 0 w2 W.heap.size h.size (hn.below h)
  rw [non_dat, v_3] at C3
  have H3 := Lib.hid C3
  have C4 := fun w2 (h : Below W.heap.size W w2) => pup_any (some ⟨w.heap.size + 2, 0, none⟩) 3 3 (nonL w.heap.size) rfl (non_sized _) 0 0 0 (by omega) (by omega) w2 W.heap.size h.size (hn.below h)
  rw [non_dat, v_4] at C4
  have H4 := Lib.hid C4
  have C5 := fun w2 (h : Below W.heap.size W w2) => pout_any (some ⟨w.heap.size + 2, 0, none⟩) 3 3 (nonL w.heap.size) rfl (non_sized _) 0 5 0 (by omega) (by omega) w2 W.heap.size h.size (hn.below h)
  rw [non_dat, v_5] at C5
  have H5 := Lib.hid C5
  have C6 := fun w2 (h : Below W.heap.size W w2) => pout_any (some ⟨w.heap.size + 2, 0, none⟩) 3 3 (nonL w.heap.size) rfl (non_sized _) 0 18446744073709551615 2 (by omega) (by omega) w2 W.heap.size h.size (hn.below h)
  rw [non_dat, v_6] at C6
  have H6 := Lib.hid C6
  have C7 := fun w2 (h : Below W.heap.size W w2) => pdown_any (some ⟨w.heap.size + 2, 0, none⟩) 3 3 (nonL w.heap.size) rfl (non_sized _) 3 0 (by omega) w2 W.heap.size h.size (hn.below h)
  rw [non_dat, v_7] at C7
  have H7 := Lib.hid C7
  have C8 := fun w2 (h : Below W.heap.size W w2) => pwindows_any (some ⟨w.heap.size + 2, 0, none⟩) 3 3 (nonL w.heap.size) rfl (non_sized _) 1 w2 W.heap.size h.size (hn.below h)
  rw [non_dat, v_8] at C8
  have H8 := Lib.hid C8
  have C9 := fun w2 (h : Below W.heap.size W w2) => pwindows_any (some ⟨w.heap.size + 2, 0, none⟩) 3 3 (nonL w.heap.size) rfl (non_sized _) 2 w2 W.heap.size h.size (hn.below h)
  rw [non_dat, v_9] at C9
  have H9 := Lib.hid C9
  have C10 := fun w2 (h : Below W.heap.size W w2) => pcells_any (some ⟨w.heap.size + 2, 0, none⟩) 3 3 (nonL w.heap.size) rfl (non_sized _) 2 w2 W.heap.size h.size (hn.below h)
  rw [non_dat, v_10] at C10
  have H10 := Lib.hid C10
  have C11 := fun w2 (h : Below W.heap.size W w2) => powner_any (some ⟨w.heap.size + 2, 0, none⟩) 3 3 (nonL w.heap.size) rfl (non_sized _) 18446744073709551615 (by omega) w2 W.heap.size h.size (hn.below h)
  rw [non_dat, v_11] at C11
  have H11 := Lib.hid C11
  have HB0 := Lib.hid (Below.refl W.heap.size W)
  have HBW := Lib.hid hb
  clear hn hb C1 C2 C3 C4 C5 C6 C7 C8 C9 C10 C11
  go_enter Try.func6, Try.ntmps6
  go_wp2_with (first
    | (go_at_call 9; refine (awake_any _).mono ?_; rintro e w12 ⟨rfl, hb12⟩
       have HB12 := Lib.hid (below_next HB11.out hb12)
       clear hb12)
    | (go_at_call 13; refine (H11.out _ HB10.out).mono ?_; rintro e w11 ⟨rfl, hb⟩
       have HB11 := Lib.hid (below_next HB10.out hb)
       have HB11k := Lib.hid (below_next HB10k.out hb)
       have hO := own_keep HO8.out fun g _ hlt => (HB11k.out.block g hlt)
       obtain ⟨g, eA, hg1, hg2, hrA⟩ := RowAt.of_own hO (by decide)
       have z0 : w11.cell? ⟨g, 0, none⟩ = some (.int .u64 18446744073709551615) := (hrA.cell (k := 0) (by decide))
       subst eA
       clear hO
       clear hb)
    | (go_at_call 21; refine (H10.out _ HB9.out).mono ?_; rintro e w10 ⟨rfl, hb⟩
       have HB10 := Lib.hid (below_next HB9.out hb)
       have HB10k := Lib.hid (below_next HB9k.out hb)
       clear hb)
    | (go_at_call 15; refine (H9.out _ HB8.out).mono ?_; rintro e w9 ⟨⟨A9, c9, rfl, hown9⟩, hb⟩
       have HB9 := Lib.hid (below_next HB8.out hb)
       have HB9k := Lib.hid hb
       clear hb hown9)
    | (go_at_call 15; refine (H8.out _ HB7.out).mono ?_; rintro e w8 ⟨⟨A8, c8, rfl, hown8⟩, hb⟩
       have HB8 := Lib.hid (below_next HB7.out hb)
       have HO8 := Lib.hid hown8
       clear hb hown8)
    | (go_at_call 12; refine (H7.out _ HB6.out).mono ?_; rintro e w7 ⟨rfl, hb⟩
       have HB7 := Lib.hid (below_next HB6.out hb)
       clear hb)
    | (go_at_call 8; refine (H6.out _ HB5.out).mono ?_; rintro e w6 ⟨rfl, hb⟩
       have HB6 := Lib.hid (below_next HB5.out hb)
       clear hb)
    | (go_at_call 8; refine (H5.out _ HB4.out).mono ?_; rintro e w5 ⟨rfl, hb⟩
       have HB5 := Lib.hid (below_next HB4.out hb)
       clear hb)
    | (go_at_call 14; refine (H4.out _ HB3.out).mono ?_; rintro e w4 ⟨rfl, hb⟩
       have HB4 := Lib.hid (below_next HB3.out hb)
       clear hb)
    | (go_at_call 23; refine (H3.out _ HB2.out).mono ?_; rintro e w3 ⟨⟨A3, c3, rfl, hown3⟩, hb⟩
       have HB3 := Lib.hid (below_next HB2.out hb)
       clear hb hown3)
    | (go_at_call 22; refine (H2.out _ HB1.out).mono ?_; rintro e w2 ⟨⟨A2, c2, rfl, hown2⟩, hb⟩
       have HB2 := Lib.hid (below_next HB1.out hb)
       clear hb hown2)
    | (go_at_call 21; (show Calls Try.prog 21 _ (nonW w) _); rw [← hW]; refine (H1.out _ HB0.out).mono ?_; rintro e w1 ⟨rfl, hb⟩
       have HB1 := Lib.hid (below_next HB0.out hb)
       clear hb)
    | fail)
  go_ret
  exact ⟨rfl, HBW.out.trans (HB12.out.mono HBW.out.size)⟩
end Go.Proofs.Ytndocngkganpdaa
