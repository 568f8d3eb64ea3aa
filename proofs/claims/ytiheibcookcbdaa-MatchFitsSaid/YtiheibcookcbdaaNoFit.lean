/- Fit where no card fits, at no cards and at a card without a name: contracts. -/
import Derived.Test.YtiheibcookcbdaaMem
import Derived.Test.YtiheibcookcbdaaProg
import Derived.WideMake
set_option linter.unusedVariables false
namespace Go.Proofs.Ytiheibcookcbdaa
open Go.RowKit
def zeroCard : List Value := [.string ⟨#[]⟩, .string ⟨#[]⟩, .int .u8 0, .slice none 0 0, .int .i8 0, .string ⟨#[]⟩, .int .i16 0]
set_option maxRecDepth 100000 in
theorem none_any (w : World) : Calls Try.prog 16 #[] w fun e w' => e = .returned (.agg #[.int .i64 (-1), .int .i64 0]) ∧ Below w.heap.size w w' := by
  go_enter Try.func16, Try.ntmps16
  go_wp2
  exact bodyPost_ret (v := .agg #[.int .i64 (-1), .int .i64 0]) (by simp [results, Try.results16, go_sem]) rfl ⟨rfl, (Below.refl _ _).alloc (Nat.le_refl _) _⟩
set_option maxRecDepth 100000 in
theorem cname_empty (w : World) : Calls Try.prog 36 #[.string ⟨#[]⟩] w fun e w' => e = .returned (.bool false) ∧ w = w' := by
  go_enter Try.func36, Try.ntmps36
  go_wp2_with fail
  go_ret
  exact ⟨by rfl, rfl⟩
set_option maxRecDepth 100000 in
theorem may_zero (w : World) : Calls Try.prog 32 #[.agg zeroCard.toArray] w fun e w' => e = .returned (.bool false) ∧ Below w.heap.size w w' := by
  unfold zeroCard
  go_enter Try.func32, Try.ntmps32
  go_wp2_with (go_at_call 36; refine (cname_empty _).mono ?_; rintro e w' ⟨rfl, rfl⟩)
  go_ret
  exact ⟨by rfl, (Below.refl _ _).alloc (Nat.le_refl _) _⟩
set_option maxRecDepth 100000 in
theorem check_nil (w : World) : Calls Try.prog 22 #[.slice none 0 0] w fun e w' => e = .returned (.tuple #[.int .i64 0, .int .i64 0]) ∧ Below w.heap.size w w' := by
  have hmk : ∀ w : World, (Instr.makeMap 60 none).run Try.prog w = .ok (.map (some w.heap.size)) (w.alloc (.map #[] 0)) := fun w => run_makeMap_plain w 60
  go_enter Try.func22, Try.ntmps22
  go_wp2_with fail
  refine wp_loop_rounds 1 ?_
  rw [rounds_succ]
  go_wp2_with fail
  go_ret2
  exact ⟨by rfl, (Below.refl _ _).alloc (Nat.le_refl _) _⟩
set_option maxRecDepth 100000 in
set_option maxHeartbeats 4000000 in
theorem check_zero (w : World) (g : Nat) (hr : RowAt w g 37 zeroCard) : Calls Try.prog 22 #[.slice (some ⟨g, 0, none⟩) 1 1] w fun e w' => e = .returned (.tuple #[.int .i64 0, .int .i64 70]) ∧ Below w.heap.size w w' := by
  have hmk : ∀ w : World, (Instr.makeMap 60 none).run Try.prog w = .ok (.map (some w.heap.size)) (w.alloc (.map #[] 0)) := fun w => run_makeMap_plain w 60
  have hlt := hr.lt
  have hr1 : RowAt (w.alloc (.map #[] 0)) g 37 zeroCard := hr.keep (Below.heap_alloc _ _ _ hlt)
  have c0 := hr1.cell (k := 0) (by simp [zeroCard])
  have c1 := hr1.cell (k := 1) (by simp [zeroCard])
  have c2 := hr1.cell (k := 2) (by simp [zeroCard])
  have c3 := hr1.cell (k := 3) (by simp [zeroCard])
  have c4 := hr1.cell (k := 4) (by simp [zeroCard])
  have c5 := hr1.cell (k := 5) (by simp [zeroCard])
  have c6 := hr1.cell (k := 6) (by simp [zeroCard])
  simp only [zeroCard, List.getElem?_cons_succ, List.getElem?_cons_zero] at c0 c1 c2 c3 c4 c5 c6
  have hmz := may_zero
  unfold zeroCard at hmz
  have HMZ := Lib.hid hmz
  clear hr hr1 hmz
  go_enter Try.func22, Try.ntmps22
  go_wp2_with fail
  refine wp_loop_rounds 1 ?_
  rw [rounds_succ]
  go_wp2_with (go_at_call 32; refine (HMZ.out _).mono ?_; rintro e w3 ⟨rfl, hb3⟩; have HB3 := Lib.hid hb3; clear hb3)
  go_ret2
  exact ⟨by rfl, (((Below.refl _ _).alloc (Nat.le_refl _) _).alloc (by simp) _).trans (HB3.out.mono (by simp; omega))⟩
set_option maxRecDepth 100000 in
set_option maxHeartbeats 4000000 in
theorem fits_nil (w : World) (g : Nat) (s : ByteArray) (hc : w.cell? ⟨g, 0, none⟩ = some (.string s)) : Calls Try.prog 15 #[.slice none 0 0, .slice (some ⟨g, 0, none⟩) 1 1] w fun e w' => e = .returned (.agg #[.int .i64 (-1), .int .i64 0]) ∧ Below w.heap.size w w' := by
  have hlt := World.block_lt_of_cell? w _ hc
  have hc1 : (w.alloc (.cells #[.int .i64 0, .int .i64 0] 30)).cell? ⟨g, 0, none⟩ = some (.string s) := (World.cell?_alloc_lt _ _ _ hlt).trans hc
  clear hc
  go_enter Try.func15, Try.ntmps15
  go_wp2_with fail
  refine wp_loop_rounds 2 ?_
  rw [rounds_succ]
  go_wp2_with fail
  refine wp_loop_rounds 1 ?_
  rw [rounds_succ]
  go_wp2_with fail
  rw [rounds_succ]
  go_wp2_with (go_at_call 16; refine (none_any _).mono ?_; rintro e w3 ⟨rfl, hb3⟩
               have hr3 : RowAt w3 w.heap.size 30 [.int .i64 0, .int .i64 0] := RowAt.keep (w := w.alloc (.cells #[.int .i64 0, .int .i64 0] 30)) ⟨_, heap_alloc_new _ _, rfl⟩ (hb3.block _ (by simp))
               have c0 := hr3.cell (k := 0) (by simp)
               have c1 := hr3.cell (k := 1) (by simp)
               have f0 := hr3.frozen 0
               have f1 := hr3.frozen 1
               simp only [List.getElem?_cons_succ, List.getElem?_cons_zero] at c0 c1
               have HR3 := Lib.hid hr3
               have HB3 := Lib.hid hb3
               clear hb3 hr3)
  have hr4 := (HR3.out.store 0 (.int .i64 (-1))).store 1 (.int .i64 0)
  have d0 := hr4.cell (k := 0) (by simp)
  have d1 := hr4.cell (k := 1) (by simp)
  simp only [List.set_cons_zero, List.set_cons_succ, List.getElem?_cons_succ, List.getElem?_cons_zero] at d0 d1
  exact bodyPost_ret (v := .agg #[.int .i64 (-1), .int .i64 0]) (by simp [results, Try.results15, go_sem, d0, d1]) rfl ⟨rfl, ((((Below.refl _ _).alloc (Nat.le_refl _) _).trans (HB3.out.mono (by simp))).setCell (Nat.le_refl _) _).setCell (Nat.le_refl _) _⟩
set_option maxRecDepth 100000 in
theorem wrong_nil (w : World) : Calls Try.prog 14 #[.slice none 0 0] w fun e w' => e = .returned (.int .i64 0) ∧ Below w.heap.size w w' := by
  go_enter Try.func14, Try.ntmps14
  go_wp2_with (go_at_call 22; refine (check_nil _).mono ?_; rintro e w3 ⟨rfl, hb3⟩; have HB3 := Lib.hid hb3; clear hb3)
  go_ret
  exact ⟨by rfl, HB3.out⟩
set_option maxRecDepth 100000 in
theorem wrong_zero (w : World) (g : Nat) (hr : RowAt w g 37 zeroCard) : Calls Try.prog 14 #[.slice (some ⟨g, 0, none⟩) 1 1] w fun e w' => e = .returned (.int .i64 70) ∧ Below w.heap.size w w' := by
  have HC := Lib.hid (check_zero w g hr)
  clear hr
  go_enter Try.func14, Try.ntmps14
  go_wp2_with (go_at_call 22; refine HC.out.mono ?_; rintro e w3 ⟨rfl, hb3⟩; have HB3 := Lib.hid hb3; clear hb3)
  go_ret
  exact ⟨by rfl, HB3.out⟩
end Go.Proofs.Ytiheibcookcbdaa
