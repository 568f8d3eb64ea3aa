/- awake: the contract. -/
import Derived.Test.YtndocngkganpdaaRgROwn
set_option linter.unusedVariables false
namespace Go.Proofs.Ytndocngkganpdaa
open Go.RowKit
def awkB : List Pr := [⟨kA, ⟨#[0, 0, 0, 1]⟩⟩, ⟨kRng, ⟨#[0, 0, 0, 0, 0, 0, 0, 1, 0, 0, 0, 0, 0, 1, 0, 0]⟩⟩]
def awkU : List Pr := [⟨kReg, ⟨#[0, 0, 1, 0, 0, 0, 0, 32]⟩⟩]
def awkD : List Nd := [⟨-1, ⟨#[]⟩, []⟩, ⟨0, ⟨#[98]⟩, awkB⟩, ⟨1, ⟨#[117]⟩, awkU⟩]
theorem awk_tree : treeB awkD = true := by kernel_rfl
theorem awk_win : winE awkD 2 = ([(4294967552, 32)], 0) := by kernel_rfl
theorem awk_own : ownE awkD 4294967568 = (2, 0) := by kernel_rfl
def awkL (g : Nat) : List Nm := [⟨⟨-1, ⟨#[]⟩, []⟩, none, 0⟩, ⟨⟨0, ⟨#[98]⟩, awkB⟩, some ⟨g, 0, none⟩, 2⟩, ⟨⟨1, ⟨#[117]⟩, awkU⟩, some ⟨g + 1, 0, none⟩, 1⟩]
theorem awk_dat (g : Nat) : dat (awkL g) = awkD := rfl
theorem awk_sized (g : Nat) : Sized (awkL g) := by
  refine ⟨(by decide : 3 * 48 ≤ 140737488355328), ?_, ?_, ?_⟩
  · intro x hx
    rw [awk_dat] at hx
    have h : ∀ x ∈ awkD, x.n.size ≤ 100 ∧ ∀ y ∈ x.ps, y.n.size ≤ 100 ∧ y.v.size ≤ 100 := by decide
    refine ⟨by have := (h x hx).1; omega, fun y hy => ?_⟩
    have := (h x hx).2 y hy
    omega
  · intro x hx
    have h : x.d.ps.length ≤ 100 := by
      simp only [awkL, List.mem_cons, List.not_mem_nil, or_false] at hx
      rcases hx with rfl | rfl | rfl
      · exact (by decide : 0 ≤ 100)
      · exact (by decide : 2 ≤ 100)
      · exact (by decide : 1 ≤ 100)
    omega
  · intro x hx
    simp only [awkL, List.mem_cons, List.not_mem_nil, or_false] at hx
    rcases hx with rfl | rfl | rfl
    · exact (by decide : (Lit.int .i64 (-1)).wf = true)
    · exact (by decide : (Lit.int .i64 0).wf = true)
    · exact (by decide : (Lit.int .i64 1).wf = true)
def awkW (w : World) : World := ((w.alloc (.cells (prCells awkB).toArray 54)).alloc (.cells (prCells awkU).toArray 54)).alloc (.cells (nmCells (awkL w.heap.size)).toArray 42)
theorem seg_of_heap {w : World} {g B : Nat} {e : TypeId} {cs : List Value} (h : w.heap[g]? = some (.cells cs.toArray e (0, 0))) (hB : g < B) : Seg w B (some ⟨g, 0, none⟩) cs := fun _ => ⟨g, 0, rfl, hB, fun j u hu => by
  rw [Nat.zero_add, cell_of_row _ _ _ _ _ _ h]; simpa using hu⟩
theorem awk_nodes (w : World) : Nodes (awkW w) (awkW w).heap.size (some ⟨w.heap.size + 2, 0, none⟩) (awkL w.heap.size) := by
  have hz : (awkW w).heap.size = w.heap.size + 3 := by unfold awkW; simp
  have h2 : (awkW w).heap[w.heap.size + 2]? = some (.cells (nmCells (awkL w.heap.size)).toArray 42 (0, 0)) := by
    have := heap_alloc_new ((w.alloc (.cells (prCells awkB).toArray 54)).alloc (.cells (prCells awkU).toArray 54)) (.cells (nmCells (awkL w.heap.size)).toArray 42)
    rw [show ((w.alloc (.cells (prCells awkB).toArray 54)).alloc (.cells (prCells awkU).toArray 54)).heap.size = w.heap.size + 2 from by simp] at this
    exact this
  have h1 : (awkW w).heap[w.heap.size + 1]? = some (.cells (prCells awkU).toArray 54 (0, 0)) := by
    have := heap_alloc_new (w.alloc (.cells (prCells awkB).toArray 54)) (.cells (prCells awkU).toArray 54)
    rw [show (w.alloc (.cells (prCells awkB).toArray 54)).heap.size = w.heap.size + 1 from by simp] at this
    exact (Below.heap_alloc _ _ _ (by simp)).trans this
  have h0 : (awkW w).heap[w.heap.size]? = some (.cells (prCells awkB).toArray 54 (0, 0)) := by
    have := heap_alloc_new w (.cells (prCells awkB).toArray 54)
    exact ((Below.heap_alloc _ _ _ (by simp; omega)).trans (Below.heap_alloc _ _ _ (by simp))).trans this
  refine ⟨seg_of_heap h2 (by omega), fun x hx => ?_⟩
  simp only [awkL, List.mem_cons, List.not_mem_nil, or_false] at hx
  rcases hx with rfl | rfl | rfl
  · exact Seg.nil
  · exact seg_of_heap h0 (by omega)
  · exact seg_of_heap h1 (by omega)
theorem awk_below (w : World) : Below w.heap.size w (awkW w) := (((Below.refl _ w).alloc (Nat.le_refl _) _).alloc (by simp) _).alloc (by simp; omega) _
set_option maxRecDepth 100000 in
set_option maxHeartbeats 16000000 in
theorem awake_any (w : World) : Calls Try.prog 9 #[] w fun e w' => e = .returned (.bool true) ∧ Below w.heap.size w w' := by
  obtain ⟨W, hW⟩ : ∃ W, W = awkW w := ⟨_, rfl⟩
  have hn := awk_nodes w
  have hb := awk_below w
  rw [← hW] at hn hb
  have WI := pwindows_any (some ⟨w.heap.size + 2, 0, none⟩) 3 3 (awkL w.heap.size) rfl (awk_sized _) 2 W W.heap.size (Nat.le_refl _) hn
  rw [awk_dat, awk_win] at WI
  have OW := fun w2 (h : Below W.heap.size W w2) => powner_any (some ⟨w.heap.size + 2, 0, none⟩) 3 3 (awkL w.heap.size) rfl (awk_sized _) 4294967568 (by omega) w2 W.heap.size h.size (hn.below h)
  rw [awk_dat, awk_own] at OW
  have HWI := Lib.hid WI
  have HOW := Lib.hid OW
  have HB := Lib.hid hb
  clear WI OW hn hb
  go_enter Try.func9, Try.ntmps9
  go_wp2_with (first
    | (go_at_call 15; show Calls Try.prog 15 _ (awkW w) _; rw [← hW]; refine HWI.out.mono ?_; rintro e w1 ⟨⟨A1, c1, rfl, hown⟩, hb1⟩
       have HB1 := Lib.hid hb1
       have HO := Lib.hid hown
       clear hb1 hown)
    | (go_at_call 13; refine (HOW.out _ HB1.out).mono ?_; rintro e w2 ⟨rfl, hb2⟩
       have HB2 := Lib.hid (below_next HB1.out hb2)
       have hO2 := own_keep HO.out fun g _ hlt => hb2.block g hlt
       obtain ⟨g, eA, hg1, hg2, hrA⟩ := RowAt.of_own hO2 (by decide)
       have z0 : w2.cell? ⟨g, 0, none⟩ = some (.int .u64 4294967552) := (hrA.cell (k := 0) (by decide))
       have z1 : w2.cell? ⟨g, 1, none⟩ = some (.int .u64 32) := (hrA.cell (k := 1) (by decide))
       subst eA
       clear hb2 hO2)
    | fail)
  go_ret
  exact ⟨rfl, below_next HB.out HB2.out⟩
end Go.Proofs.Ytndocngkganpdaa
