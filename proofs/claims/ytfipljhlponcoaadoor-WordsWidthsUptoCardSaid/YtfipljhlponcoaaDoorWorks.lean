/- works: the contract. -/
import Derived.Test.YtfipljhlponcoaaDoorWorkN
import Derived.Test.YtfipljhlponcoaaDoorLineM
import Derived.Test.YtfipljhlponcoaaDoorNumW
set_option linter.unusedVariables false
namespace Go.Proofs.YtfipljhlponcoaaDoor
open Go.RowKit
def wLine : ByteArray := ⟨#[97, 32, 34, 34, 32, 34, 98, 32, 99, 34, 32, 34, 100, 92, 34, 34]⟩
theorem work_line : fldN (nl wLine) = some [[97], [], [98, 32, 99], [100, 34]] := by decide +kernel
theorem work_fit : fitF (nl ⟨#[97, 98, 99]⟩) 2 = ([97, 126], 0) := by decide +kernel
theorem work_cols : colsF [[[97], [98, 98]], [[99, 99, 99]]] [2, 3] = some [[97, 32, 32, 98, 98], [99, 126]] := by decide +kernel
theorem work_num : numRes ⟨#[45, 53]⟩ = (-5, 0) := by decide +kernel
theorem work_show : (shows 92 (nl ⟨#[255, 194, 133]⟩)).flatten = [92, 120, 102, 102, 92, 120, 99, 50, 92, 120, 56, 53] := by decide +kernel
theorem work_name : nameE (⟨#[117, 97, 114, 116, 64, 102, 101, 48, 48]⟩ : ByteArray).data.toList = 0 := by decide +kernel
theorem work_name2 : nameE (⟨#[65]⟩ : ByteArray).data.toList = 10 := by decide +kernel
theorem seg_heap {W : World} {B g : Nat} {cs : Array Value} {e : TypeId} {fz : Nat × Nat} (hh : W.heap[g]? = some (.cells cs e fz)) (hB : g < B) : Seg W B (some ⟨g, 0, none⟩) cs.toList := fun _ =>
  ⟨g, 0, rfl, hB, fun j u hu => by rw [Nat.zero_add, cell_of_row _ _ _ _ _ fz hh]; simpa using hu⟩
section
variable (w : World) (a b c d : Obj)
theorem al0 : ((((w.alloc a).alloc b).alloc c).alloc d).heap[w.heap.size]? = some a := by
  rw [Below.heap_alloc _ _ _ (by first | (simp; done) | (simp; omega)), Below.heap_alloc _ _ _ (by first | (simp; done) | (simp; omega)), Below.heap_alloc _ _ _ (by first | (simp; done) | (simp; omega)), heap_alloc_new]
theorem al1 : ((((w.alloc a).alloc b).alloc c).alloc d).heap[w.heap.size + 1]? = some b := by
  rw [Below.heap_alloc _ _ _ (by first | (simp; done) | (simp; omega)), Below.heap_alloc _ _ _ (by first | (simp; done) | (simp; omega))]
  have := heap_alloc_new (w.alloc a) b
  rwa [World.size_alloc] at this
theorem al2 : ((((w.alloc a).alloc b).alloc c).alloc d).heap[w.heap.size + 1 + 1]? = some c := by
  rw [Below.heap_alloc _ _ _ (by simp)]
  have := heap_alloc_new ((w.alloc a).alloc b) c
  rwa [World.size_alloc, World.size_alloc] at this
theorem al3 : ((((w.alloc a).alloc b).alloc c).alloc d).heap[w.heap.size + 1 + 1 + 1]? = some d := by
  have := heap_alloc_new (((w.alloc a).alloc b).alloc c) d
  rwa [World.size_alloc, World.size_alloc, World.size_alloc] at this
end
theorem work_same {W : World} {A A' : Option Addr} {c c' n n' : Nat} {ts us : List ByteArray} {B B' : Nat} (hn : n = ts.length) (hn' : n' = us.length) (h : ts.map nl = us.map nl) (hl : n ≤ 1000) (h1 : Seg W B A (sV ts)) (h2 : Seg W B' A' (sV us)) :
    Calls Tryd.prog 19 #[.slice A n c, .slice A' n' c'] W fun e w' => e = .returned (.bool true) ∧ ∃ q, w' = W.drewN q := by
  have := same_any A c n ts hn A' c' n' us hn' (by omega) W B B' h1 h2
  rw [same_eq h] at this
  exact this
set_option maxRecDepth 100000 in
set_option maxHeartbeats 32000000 in
theorem works_any (w : World) (hl : Lay w) : Calls Tryd.prog 26 #[] w fun e w' => e = .returned (.bool true) ∧ Below w.heap.size w w' := by
  have HL := Lib.hid hl
  have hw := hl.h5
  have hws : (0 : Nat) < w.heap.size := by omega
  have F1 := Lib.hid (pfields_any wLine w (by decide) hl.e1 hl.e2 (by omega))
  clear hl hw
  go_enter Tryd.func26, Tryd.ntmps26
  go_wp2_with fail
  refine F1.out.mono ?_
  rintro e w1 ⟨hf, hb1⟩
  rw [work_line] at hf
  obtain ⟨A1, c1, t1, rfl, ho1, hd1⟩ := hf
  have O1 := Lib.hid (own_seg ho1)
  have D1 := Lib.hid hd1
  have B1 := Lib.hid hb1
  have l1 := Lib.hid (show t1.length = 4 from by have := congrArg List.length hd1; simpa using this)
  have L1 := Lib.hid (HL.out.below hb1)
  clear ho1 hd1 hb1
  go_wp2_with fail
  refine (fit_any ⟨#[97, 98, 99]⟩ 2 w1 (by decide)).mono ?_
  rintro e w2 ⟨t2, rfl, ht2, hb2⟩
  rw [work_fit] at ht2
  rw [work_fit]
  obtain rfl : t2 = ⟨#[97, 126]⟩ := nl_inj ht2
  have O2 := Lib.hid ((O1.out.below hb2).more hb2.size)
  have B2 := Lib.hid (B1.out.trans (hb2.mono B1.out.size))
  have L2 := Lib.hid (L1.out.below hb2)
  clear ht2 hb2
  go_wp2_with fail
  obtain ⟨W3, hW3⟩ : ∃ W3, W3 = ((((w2.alloc (.cells #[.string ⟨#[97]⟩, .string ⟨#[98, 98]⟩] 9)).alloc (.cells #[.string ⟨#[99, 99, 99]⟩] 9)).alloc (.cells #[.slice (some ⟨w2.heap.size, 0, none⟩) 2 2, .slice (some ⟨w2.heap.size + 1, 0, none⟩) 1 1] 33)).alloc (.cells #[.int .i64 2, .int .i64 3] 3)) := ⟨_, rfl⟩
  have hs3 : W3.heap.size = w2.heap.size + 4 := by rw [hW3]; simp
  have rz : Rowz W3 W3.heap.size (some ⟨w2.heap.size + 1 + 1, 0, none⟩) [⟨some ⟨w2.heap.size, 0, none⟩, 2, [⟨#[97]⟩, ⟨#[98, 98]⟩]⟩, ⟨some ⟨w2.heap.size + 1, 0, none⟩, 1, [⟨#[99, 99, 99]⟩]⟩] := by
    refine ⟨seg_heap (cs := #[.slice (some ⟨w2.heap.size, 0, none⟩) 2 2, .slice (some ⟨w2.heap.size + 1, 0, none⟩) 1 1]) (e := 33) (fz := (0, 0)) (by rw [hW3]; exact al2 _ _ _ _ _) (by omega), fun x hx => ?_⟩
    rcases List.mem_cons.1 hx with rfl | hx
    · exact seg_heap (cs := #[.string ⟨#[97]⟩, .string ⟨#[98, 98]⟩]) (e := 9) (fz := (0, 0)) (by rw [hW3]; exact al0 _ _ _ _ _) (by omega)
    · obtain rfl := List.mem_singleton.1 hx
      exact seg_heap (cs := #[.string ⟨#[99, 99, 99]⟩]) (e := 9) (fz := (0, 0)) (by rw [hW3]; exact al1 _ _ _ _ _) (by omega)
  have si : Seg W3 W3.heap.size (some ⟨w2.heap.size + 1 + 1 + 1, 0, none⟩) (ints [2, 3]) := seg_heap (cs := #[.int .i64 2, .int .i64 3]) (e := 3) (fz := (0, 0)) (by rw [hW3]; exact al3 _ _ _ _ _) (by omega)
  have b3 : Below w2.heap.size w2 W3 := by
    rw [hW3]
    exact ((((Below.refl _ w2).alloc (Nat.le_refl _) _).alloc (by simp) _).alloc (by simp; omega) _).alloc (by simp; omega) _
  have O3 := Lib.hid (O2.out.below b3)
  have B3 := Lib.hid (B2.out.trans (b3.mono B2.out.size))
  have L3 := Lib.hid (L2.out.below b3)
  have b23 := Lib.hid b3.size
  have PC := pcols_any (some ⟨w2.heap.size + 1 + 1, 0, none⟩) 2 2 [⟨some ⟨w2.heap.size, 0, none⟩, 2, [⟨#[97]⟩, ⟨#[98, 98]⟩]⟩, ⟨some ⟨w2.heap.size + 1, 0, none⟩, 1, [⟨#[99, 99, 99]⟩]⟩] rfl ⟨by simp, by simp, by simp; decide⟩ (some ⟨w2.heap.size + 1 + 1 + 1, 0, none⟩) 2 2 [2, 3] rfl (by omega) W3 W3.heap.size (Nat.le_refl _) rz si
  rw [← hW3]
  have hb3 := Lib.hid B3.out.size
  clear rz si b3 hs3 hW3
  refine PC.mono ?_
  clear PC
  rintro e w4 ⟨hc, hb4⟩
  rw [show tdat _ = [[[97], [98, 98]], [[99, 99, 99]]] from rfl, work_cols] at hc
  obtain ⟨A4, c4, t4, rfl, ho4, hd4⟩ := hc
  have P4 := Lib.hid (own_seg ho4)
  have D4 := Lib.hid hd4
  have l4 := Lib.hid (show t4.length = 2 from by have := congrArg List.length hd4; simpa using this)
  have O4 := Lib.hid ((O3.out.more (by have := b23.out; omega)).below hb4)
  have B4 := Lib.hid (B3.out.trans (hb4.mono B3.out.size))
  have L4 := Lib.hid (L3.out.below hb4)
  have s34 := Lib.hid hb4.size
  clear ho4 hd4 hb4
  go_wp2_with fail
  refine (num_any ⟨#[45, 53]⟩ (by decide) w4 L4.out.e1 L4.out.e2 L4.out.p10).mono ?_
  rw [work_num]
  rintro e w5 ⟨rfl, hb5⟩
  have O5 := Lib.hid ((O4.out.more s34.out).below hb5)
  have P5 := Lib.hid (P4.out.below hb5)
  have B5 := Lib.hid (B4.out.trans (hb5.mono B4.out.size))
  have L5 := Lib.hid (L4.out.below hb5)
  have s45 := Lib.hid hb5.size
  clear hb5
  go_wp2_with fail
  have sA := seg_new (w := w5) (e := 9) (cs := #[.string ⟨#[97]⟩, .string ⟨#[]⟩, .string ⟨#[98, 32, 99]⟩, .string ⟨#[100, 34]⟩])
  have SM := work_same (c := c1) (c' := 4) (us := [⟨#[97]⟩, ⟨#[]⟩, ⟨#[98, 32, 99]⟩, ⟨#[100, 34]⟩]) rfl rfl (by rw [D1.out]; rfl) (by rw [l1.out]; omega) (O5.out.alloc s45.out _) sA
  refine SM.mono ?_
  clear SM sA
  rintro e w6 ⟨rfl, q6, rfl⟩
  have P6 := Lib.hid (show Seg ((w5.alloc (.cells #[.string ⟨#[97]⟩, .string ⟨#[]⟩, .string ⟨#[98, 32, 99]⟩, .string ⟨#[100, 34]⟩] 9)).drewN q6) w4.heap.size A4 (sV t4) from P5.out.alloc s45.out _)
  have B6 := Lib.hid (below_drewN (B5.out.alloc B5.out.size (.cells #[.string ⟨#[97]⟩, .string ⟨#[]⟩, .string ⟨#[98, 32, 99]⟩, .string ⟨#[100, 34]⟩] 9)) q6)
  have s46 := Lib.hid (show w4.heap.size ≤ ((w5.alloc (.cells #[.string ⟨#[97]⟩, .string ⟨#[]⟩, .string ⟨#[98, 32, 99]⟩, .string ⟨#[100, 34]⟩] 9)).drewN q6).heap.size from by have := s45.out; show _ ≤ (w5.alloc _).heap.size; rw [World.size_alloc]; omega)
  generalize (w5.alloc (.cells #[.string ⟨#[97]⟩, .string ⟨#[]⟩, .string ⟨#[98, 32, 99]⟩, .string ⟨#[100, 34]⟩] 9)).drewN q6 = w6 at P6 B6 s46 ⊢
  clear B5 P5 O5 L5 B4 O4 P4 B3 O3 B2 O2 B1 O1
  go_wp2_with fail
  have sB := seg_new (w := w6) (e := 9) (cs := #[.string ⟨#[97, 32, 32, 98, 98]⟩, .string ⟨#[99, 126]⟩])
  have SM := work_same (c := c4) (c' := 2) (us := [⟨#[97, 32, 32, 98, 98]⟩, ⟨#[99, 126]⟩]) rfl rfl (by rw [D4.out]; rfl) (by rw [l4.out]; omega) (P6.out.alloc s46.out _) sB
  refine SM.mono ?_
  clear SM sB
  rintro e w7 ⟨rfl, q7, rfl⟩
  have B7 := Lib.hid (below_drewN (B6.out.alloc B6.out.size (.cells #[.string ⟨#[97, 32, 32, 98, 98]⟩, .string ⟨#[99, 126]⟩] 9)) q7)
  generalize (w6.alloc (.cells #[.string ⟨#[97, 32, 32, 98, 98]⟩, .string ⟨#[99, 126]⟩] 9)).drewN q7 = w7 at B7 ⊢
  clear B6 P6
  go_wp2_with fail
  refine (show_any ⟨#[255, 194, 133]⟩ w7 (by decide)).mono ?_
  rw [work_show]
  rintro e w8 ⟨t8, rfl, ht8, hb8⟩
  obtain rfl : t8 = ⟨#[92, 120, 102, 102, 92, 120, 99, 50, 92, 120, 56, 53]⟩ := nl_inj ht8
  have B8 := Lib.hid (B7.out.trans (hb8.mono B7.out.size))
  clear ht8 hb8
  go_wp2_with fail
  refine (pname_any ⟨#[117, 97, 114, 116, 64, 102, 101, 48, 48]⟩ w8 (by decide)).mono ?_
  rw [work_name]
  rintro e w9 ⟨rfl, hb9⟩
  have B9 := Lib.hid (B8.out.trans (hb9.mono B8.out.size))
  clear hb9
  go_wp2_with fail
  refine (pname_any ⟨#[65]⟩ w9 (by decide)).mono ?_
  rw [work_name2]
  rintro e w10 ⟨rfl, hb10⟩
  have B10 := Lib.hid (B9.out.trans (hb10.mono B9.out.size))
  clear hb10
  go_wp2_with fail
  go_ret
  exact ⟨rfl, B10.out⟩
end Go.Proofs.YtfipljhlponcoaaDoor
