/- Fit at no cards and at a card without a name. -/
import Derived.Test.YtiheibcookcbdaaNoFit
import Derived.Deep.DeepCutAuto
import Derived.Deep.CutRange
import Derived.Deep.RegionHeld3
set_option linter.unusedVariables false
namespace Go.Proofs.Ytiheibcookcbdaa
open Go.RowKit
theorem eql30 (W : World) : (binOp .eql 30 (.agg #[.int .i64 (-1), .int .i64 0]) (.agg #[.int .i64 (-1), .int .i64 0])).run Try.prog W = .ok (.bool true) W := by
  go_simp
set_option maxRecDepth 100000 in
set_option maxHeartbeats 4000000 in
theorem fit_zero (w : World) (g : Nat) (hr : RowAt w g 37 zeroCard) : Calls Try.prog 7 #[.slice (some ⟨g, 0, none⟩) 1 1, .slice none 0 0] w fun e w' => e = .returned (.tuple #[.agg #[.int .i64 0, .int .i64 0], .int .i64 70]) ∧ Below w.heap.size w w' := by
  have HC := Lib.hid (wrong_zero _ g (hr.keep (w' := w.alloc (.cells #[.int .i64 0, .int .i64 0] 30)) (Below.heap_alloc _ _ _ hr.lt)))
  clear hr
  go_enter Try.func7, Try.ntmps7
  go_wp2_with (go_at_call 14; refine HC.out.mono ?_; rintro e w3 ⟨rfl, hb3⟩
               have hr3 : RowAt w3 w.heap.size 30 [.int .i64 0, .int .i64 0] := RowAt.keep (w := w.alloc (.cells #[.int .i64 0, .int .i64 0] 30)) ⟨_, heap_alloc_new _ _, rfl⟩ (hb3.block _ (by simp))
               have c0 := hr3.cell (k := 0) (by simp)
               have c1 := hr3.cell (k := 1) (by simp)
               have f0 := hr3.frozen 0
               have f1 := hr3.frozen 1
               simp only [List.getElem?_cons_succ, List.getElem?_cons_zero] at c0 c1
               have HR3 := Lib.hid hr3
               have HB3 := Lib.hid hb3
               clear hb3 hr3)
  have hr4 := (HR3.out.store 0 (.int .i64 0)).store 1 (.int .i64 0)
  have d0 := hr4.cell (k := 0) (by simp)
  have d1 := hr4.cell (k := 1) (by simp)
  simp only [List.set_cons_zero, List.set_cons_succ, List.getElem?_cons_succ, List.getElem?_cons_zero] at d0 d1
  exact bodyPost_ret (v := .tuple #[.agg #[.int .i64 0, .int .i64 0], .int .i64 70]) (by simp [results, Try.results7, go_sem, d0, d1]) rfl ⟨rfl, ((((Below.refl _ _).alloc (Nat.le_refl _) _).trans (HB3.out.mono (by simp))).setCell (Nat.le_refl _) _).setCell (Nat.le_refl _) _⟩
set_option maxRecDepth 100000 in
set_option maxHeartbeats 4000000 in
theorem fit_nil (w : World) (g : Nat) (s : ByteArray) (hc : w.cell? ⟨g, 0, none⟩ = some (.string s)) : Calls Try.prog 7 #[.slice none 0 0, .slice (some ⟨g, 0, none⟩) 1 1] w fun e w' => e = .returned (.tuple #[.agg #[.int .i64 0, .int .i64 0], .int .i64 6]) ∧ Below w.heap.size w w' := by
  have hlt := World.block_lt_of_cell? w _ hc
  have hc1 : (w.alloc (.cells #[.int .i64 0, .int .i64 0] 30)).cell? ⟨g, 0, none⟩ = some (.string s) := (World.cell?_alloc_lt _ _ _ hlt).trans hc
  have HC1 := Lib.hid hc1
  have hq := eql30
  clear hc hc1
  go_enter Try.func7, Try.ntmps7
  go_upto_region 5 with (first
    | (go_at_call 15; refine (fits_nil w3 g s ((HB3.out.cell (p := ⟨g, 0, none⟩) (by show g < (w.alloc _).heap.size; rw [World.size_alloc]; exact Nat.lt_succ_of_lt hlt)).trans HC1.out)).mono ?_; rintro e w4 ⟨rfl, hb4⟩
       have HB4 := Lib.hid hb4
       clear hb4)
    | (go_at_call 14; refine (wrong_nil _).mono ?_; rintro e w3 ⟨rfl, hb3⟩
       have HB3 := Lib.hid hb3
       clear hb3)
    | fail)
  have hr4 : RowAt (w4.alloc (.cells #[.int .i64 (-1), .int .i64 0] 30)) w4.heap.size 30 [.int .i64 (-1), .int .i64 0] := ⟨_, heap_alloc_new _ _, rfl⟩
  have hs4 : w.heap.size < w4.heap.size := Nat.lt_of_lt_of_le (by simp) (Nat.le_trans HB3.out.size HB4.out.size)
  have hr5 : RowAt (w4.alloc (.cells #[.int .i64 (-1), .int .i64 0] 30)) w.heap.size 30 [.int .i64 0, .int .i64 0] := RowAt.keep (w := w.alloc (.cells #[.int .i64 0, .int .i64 0] 30)) ⟨_, heap_alloc_new _ _, rfl⟩
    (by rw [Below.heap_alloc _ _ _ hs4, HB4.out.block _ (Nat.lt_of_lt_of_le (by simp) HB3.out.size), HB3.out.block _ (by simp)])
  have hb5 : Below w.heap.size w (w4.alloc (.cells #[.int .i64 (-1), .int .i64 0] 30)) := ((((Below.refl _ _).alloc (Nat.le_refl _) _).trans (HB3.out.mono (by simp))).trans (HB4.out.mono (Nat.le_trans (by simp) HB3.out.size))).alloc (Nat.le_of_lt hs4) _
  have hs5 : w.heap.size < (w4.alloc (.cells #[.int .i64 (-1), .int .i64 0] 30)).heap.size := by simp; omega
  have hs6 : w4.heap.size < (w4.alloc (.cells #[.int .i64 (-1), .int .i64 0] 30)).heap.size := by simp
  generalize w4.alloc (.cells #[.int .i64 (-1), .int .i64 0] 30) = w5 at *
  generalize w4.heap.size = g4 at *
  have x0 := hr4.cell (k := 0) (by simp)
  have x1 := hr4.cell (k := 1) (by simp)
  simp only [List.getElem?_cons_succ, List.getElem?_cons_zero] at x0 x1
  have HR5 := Lib.hid hr5
  have HB5 := Lib.hid hb5
  clear hr4 hr5 hb5 HB3 HB4
  go_region_held3 (fun W => W.cell? ⟨g4, 0, none⟩ = some (.int .i64 (-1)) ∧ W.cell? ⟨g4, 1, none⟩ = some (.int .i64 0)) (first | exact ⟨x0, x1⟩ | exact ⟨y0, y1⟩) (first
    | (go_at_call 16; refine (none_any w5.drew).mono ?_; rintro e w6 ⟨rfl, hb6⟩
       have y0 := (hb6.cell (p := ⟨g4, 0, none⟩) hs6).trans x0
       have y1 := (hb6.cell (p := ⟨g4, 1, none⟩) hs6).trans x1
       have HB6 := Lib.hid hb6
       clear hb6))
  have hr6 : RowAt w6 w.heap.size 30 [.int .i64 0, .int .i64 0] := HR5.out.keep (HB6.out.block _ hs5)
  have c0 := hr6.cell (k := 0) (by simp)
  have c1 := hr6.cell (k := 1) (by simp)
  have f0 := hr6.frozen 0
  have f1 := hr6.frozen 1
  simp only [List.getElem?_cons_succ, List.getElem?_cons_zero] at c0 c1
  have hr7 := (hr6.store 0 (.int .i64 0)).store 1 (.int .i64 0)
  have HR7 := Lib.hid hr7
  clear hr6 hr7
  go_wp2_with fail
  have d0 := HR7.out.cell (k := 0) (by simp)
  have d1 := HR7.out.cell (k := 1) (by simp)
  simp only [List.set_cons_zero, List.set_cons_succ, List.getElem?_cons_succ, List.getElem?_cons_zero] at d0 d1
  exact bodyPost_ret (v := .tuple #[.agg #[.int .i64 0, .int .i64 0], .int .i64 6]) (by simp [results, Try.results7, go_sem, d0, d1]) rfl ⟨rfl, ((HB5.out.drew.trans (HB6.out.mono (Nat.le_of_lt hs5))).setCell (Nat.le_refl _) _).setCell (Nat.le_refl _) _⟩
end Go.Proofs.Ytiheibcookcbdaa
