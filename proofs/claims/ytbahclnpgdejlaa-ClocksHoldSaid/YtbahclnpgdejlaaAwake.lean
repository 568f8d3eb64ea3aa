import Derived.Test.YtbahclnpgdejlaaNearer
set_option linter.unusedVariables false
namespace Go.Proofs.Ytbahclnpgdejlaa
open Go.RowKit
def aw0 : List Clk := [⟨-1, 96, 1, 1, 0, 1000, false⟩, ⟨0, 0, 1, 3, 0, 1000, false⟩]
def aw1 : List Clk := [⟨-1, 96, 1, 1, 0, 1000, false⟩, ⟨0, 0, 1, 2, 0, 1000, false⟩]
theorem aw0_may : mayB aw0 = true := by decide
theorem aw0_good : Good aw0 := fun j hj => (mayB_iff.1 aw0_may).2 j hj
theorem aw1_good : Good aw1 := fun j hj => (mayB_iff.1 (show mayB aw1 = true by decide)).2 j hj
theorem aw0_fit : ∀ j, j < 2 → fitsAt aw0 j = true := by decide
theorem aw1_fit : ∀ j, j < 2 → fitsAt aw1 j = true := by decide
theorem aw0_rates : ratesOf aw0 = [96, 32] := by decide
theorem aw1_rates : ratesOf aw1 = [96, 48] := by decide
theorem aw1_chg : chg [96, 32] (ratesOf aw1) 2 = [(1, 32, 48)] := by decide
theorem aw1_busy : ∀ j, j < 2 → busyAt aw1 [96, 32] (ratesOf aw1) [0, 0] j = false := by decide
theorem aw_round : (2 : Int) = (roundOf (baseOf [96, 32] aw0[1] * aw0[1].mul) 50).1 := by decide
theorem aw1_set : aw1 = aw0.set 1 { aw0[1] with div := 2 } := rfl
theorem aw_hold : holdF aw1 513 1 [0, 0] = ([1, 1], [(0, true), (1, true)]) := by decide
theorem aw0_inv : Inv ⟨aw0, [96, 32], [0, 0], [0, 0]⟩ := ⟨aw0_may, fun j hj => aw0_fit j hj, aw0_rates.symm⟩
set_option maxRecDepth 100000 in
set_option maxHeartbeats 2000000 in
theorem awake_any (w : World) : Calls Try.prog 10 #[] w fun e w' => e = .returned (.bool true) ∧ Below w.heap.size w w' := by
  have hs0 := seg_new w 30 #[.int .i64 (-1), .int .i64 96, .int .i64 1, .int .i64 1, .int .i64 0, .int .i64 1000, .bool false, .int .i64 0, .int .i64 0, .int .i64 1, .int .i64 3, .int .i64 0, .int .i64 1000, .bool false]
  have HS := Lib.hid hs0
  clear hs0
  go_enter Try.func10, Try.ntmps10
  go_wp2_with (first
    | (go_at_call 7
       refine (new_ok _ _ aw0 2 rfl _ (w.heap.size + 1) (by simp) HS.out (by omega) aw0_may aw0_fit).mono ?_
       rintro e w1 ⟨nb, rfl, ⟨n, Ac, Ar, Au, Ah, cc, cr, cu, ch, hn⟩, hb1⟩
       obtain rfl : n = 2 := hn.len
       rw [aw0_rates] at hn
       have c0 := hn.c0
       have c1 := hn.c1
       have hbel : Below w.heap.size w w1 := ((Below.refl _ _).alloc (Nat.le_refl _) _).trans (hb1.mono (by simp))
       obtain ⟨B, hB, hn⟩ : ∃ B, w.heap.size ≤ B ∧ NetAt w1 B nb 2 Ac Ar Au Ah cc cr cu ch ⟨aw0, [96, 32], [0, 0], [0, 0]⟩ := ⟨_, by simp, hn⟩
       have HN := Lib.hid hn
       have HB1 := Lib.hid hbel
       clear hn hb1 hbel)
    | (go_at_call 28
       refine (rate_ok (k := 1) c0 c1 HN.out.vr.seg (by omega) rfl).mono ?_
       rintro e w' ⟨rfl, rfl⟩)
    | (go_at_call 29
       refine (set_ok (k := 1) HN.out aw0_inv (by decide) 50 2 (by omega) (by omega) aw_round aw1 aw1_set aw1_fit aw1_busy).mono ?_
       rintro e w2 ⟨A2, c2, A2', c2', gr, rfl, hown2, hn2, hf2⟩
       rw [show (ratesOf aw1) = [96, 48] from aw1_rates] at hn2
       rw [show chg (St.rs ⟨aw0, [96, 32], [0, 0], [0, 0]⟩) (ratesOf aw1) 2 = [(1, 32, 48)] from aw1_chg] at hown2 ⊢
       have HN2 := Lib.hid hn2
       have hnl := HN.out.low
       have hbel2 : Below w.heap.size w w2 := HB1.out.trans (hf2.toBelow HB1.out.size (fun j hj => by omega))
       have HB2 := Lib.hid hbel2
       have HO2 := Lib.hid hown2
       clear hn2 hown2 hf2 hnl hbel2)
    | (go_at_call 12
       obtain ⟨gu, rfl, _, hru⟩ := HN2.out.row_u (by omega)
       obtain ⟨gh, rfl, _, hrh⟩ := HN2.out.row_h (by omega)
       refine (get_ok HN2.out aw1_good (by omega) (k := 1) (by omega) (by decide) (by decide) (by decide) (by decide)).mono ?_
       rintro e w3 ⟨A3, c3, rfl, hown3, hn3, hf3⟩
       rw [show holdF aw1 513 (1 : Nat) [0, 0] = ([1, 1], [(0, true), (1, true)]) from aw_hold] at hown3 hn3 ⊢
       obtain ⟨g2, rfl, hg2a, hg2b, hr2⟩ := RowAt.of_own HO2.out (by decide)
       obtain ⟨g3, rfl, hg3a, hg3b, hr3⟩ := RowAt.of_own hown3 (by decide)
       obtain ⟨gu', hu', _, hru1⟩ := HN.out.row_u (by omega)
       obtain ⟨gh', hh', _, hrh1⟩ := HN.out.row_h (by omega)
       obtain rfl : gu = gu' := by injection hu' with hu'; injection hu'
       obtain rfl : gh = gh' := by injection hh' with hh'; injection hh'
       have hr23 := hr2.frame hf3 (by have := hru1.lt; have := hrh1.lt; omega)
       have k0 := hr23.cell (k := 0) (by decide)
       have k1 := hr23.cell (k := 1) (by decide)
       have k2 := hr23.cell (k := 2) (by decide)
       have k3 := hr3.cell (k := 0) (by decide)
       simp only [chgCells, turnCells, List.flatMap_cons, List.cons_append, List.getElem?_cons_zero, List.getElem?_cons_succ] at k0 k1 k2 k3
       have hB3 : Below w.heap.size w w3 := HB2.out.trans (hf3.toBelow HB2.out.size (fun j hj => by omega))
       have HN3 := Lib.hid hn3
       have HB3 := Lib.hid hB3
       clear hru hrh hru1 hrh1 hr2 hr3 hr23 hn3 hB3 hf3 hown3 hu' hh' hn)
    | (go_at_call 13
       refine (on_ok HN3.out (k := 0) (by omega)).mono ?_
       rintro e w' ⟨rfl, rfl⟩))
  go_ret
  exact ⟨rfl, HB3.out⟩
end Go.Proofs.Ytbahclnpgdejlaa
