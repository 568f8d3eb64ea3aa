/- The program's refusals, and Set up to its change: the contracts. -/
import Derived.Test.YtbahclnpgdejlaaPChange
set_option linter.unusedVariables false
namespace Go.Proofs.Ytbahclnpgdejlaa
open Go.RowKit
section
variable {w : World} {B nb n : Nat} {Ac Ar Au Ah : Option Addr} {cc cr cu ch : Nat} {s : St}
theorem pround_no (h : NetAt w B nb n Ac Ar Au Ah cc cr cu ch s) (i want : Int) (hi : i < 0 ∨ n ≤ i ∨ want < 0 ∨ 1099511627776 < want) :
    Calls Try.prog 8 #[.pointer (some ⟨nb, 0, none⟩), .int .i64 i, .int .i64 want] w fun e w' => e = .returned (.tuple #[.int .i64 0, .int .i64 0, .int .i64 1]) ∧ Below w.heap.size w w' := by
  have c0 := h.c0
  clear h
  by_cases h1 : i < 0 ∨ n ≤ i
  · clear hi
    go_enter Try.func8, Try.ntmps8
    go_wp2_with (go_at_call 25; refine (there_no _ _ _ _ _ _ c0 h1).mono ?_; rintro e w' ⟨rfl, rfl⟩)
    go_ret3
    exact ⟨rfl, Below.refl _ _⟩
  · rcases (show want < 0 ∨ (0 ≤ want ∧ 1099511627776 < want) by omega) with h2 | ⟨h2, h3⟩
    all_goals
      have h4 : 0 ≤ i := by omega
      have h5 : i < n := by omega
      clear hi h1
      go_enter Try.func8, Try.ntmps8
      go_wp2_with (go_at_call 25; refine (there_ok _ _ _ _ _ _ c0 h4 h5).mono ?_; rintro e w' ⟨rfl, rfl⟩)
      go_ret3
      exact ⟨rfl, Below.refl _ _⟩
theorem pset_no (h : NetAt w B nb n Ac Ar Au Ah cc cr cu ch s) (i want : Int) (hi : i < 0 ∨ n ≤ i ∨ want < 0 ∨ 1099511627776 < want) :
    Calls Try.prog 29 #[.pointer (some ⟨nb, 0, none⟩), .int .i64 i, .int .i64 want] w fun e w' => e = .returned (.tuple #[.slice none 0 0, .int .i64 1]) ∧ Below w.heap.size w w' := by
  have h1 := pround_no h i want hi
  have H1 := Lib.hid h1
  clear h1 h hi
  go_enter Try.func29, Try.ntmps29
  go_wp2_with (go_at_call 8; refine H1.out.mono ?_; rintro e w1 ⟨rfl, hb⟩; have HB := Lib.hid hb; clear hb)
  go_ret2
  exact ⟨rfl, HB.out⟩
theorem pget_no (h : NetAt w B nb n Ac Ar Au Ah cc cr cu ch s) (i : Int) (hi : i < 0 ∨ n ≤ i) :
    Calls Try.prog 12 #[.pointer (some ⟨nb, 0, none⟩), .int .i64 i] w fun e w' => e = .returned (.tuple #[.slice none 0 0, .int .i64 1]) ∧ w = w' := by
  have c0 := h.c0
  clear h
  go_enter Try.func12, Try.ntmps12
  go_wp2_with (go_at_call 25; refine (there_no _ _ _ _ _ _ c0 hi).mono ?_; rintro e w' ⟨rfl, rfl⟩)
  go_ret2
  exact ⟨rfl, rfl⟩
theorem pput_no (h : NetAt w B nb n Ac Ar Au Ah cc cr cu ch s) (i : Int) (hi : i < 0 ∨ n ≤ i) :
    Calls Try.prog 14 #[.pointer (some ⟨nb, 0, none⟩), .int .i64 i] w fun e w' => e = .returned (.tuple #[.slice none 0 0, .int .i64 1]) ∧ w = w' := by
  have c0 := h.c0
  clear h
  go_enter Try.func14, Try.ntmps14
  go_wp2_with (go_at_call 25; refine (there_no _ _ _ _ _ _ c0 hi).mono ?_; rintro e w' ⟨rfl, rfl⟩)
  go_ret2
  exact ⟨rfl, rfl⟩
theorem prate_no (h : NetAt w B nb n Ac Ar Au Ah cc cr cu ch s) (i : Int) (hi : i < 0 ∨ n ≤ i) :
    Calls Try.prog 28 #[.pointer (some ⟨nb, 0, none⟩), .int .i64 i] w fun e w' => e = .returned (.tuple #[.int .i64 0, .int .i64 1]) ∧ w = w' := by
  have c0 := h.c0
  clear h
  go_enter Try.func28, Try.ntmps28
  go_wp2_with (go_at_call 25; refine (there_no _ _ _ _ _ _ c0 hi).mono ?_; rintro e w' ⟨rfl, rfl⟩)
  go_ret2
  exact ⟨rfl, rfl⟩
theorem pon_no (h : NetAt w B nb n Ac Ar Au Ah cc cr cu ch s) (i : Int) (hi : i < 0 ∨ n ≤ i) :
    Calls Try.prog 13 #[.pointer (some ⟨nb, 0, none⟩), .int .i64 i] w fun e w' => e = .returned (.bool false) ∧ w = w' := by
  have c0 := h.c0
  clear h
  go_enter Try.func13, Try.ntmps13
  go_wp2_with (go_at_call 25; refine (there_no _ _ _ _ _ _ c0 hi).mono ?_; rintro e w' ⟨rfl, rfl⟩)
  go_ret
  exact ⟨rfl, rfl⟩
theorem pusers_no (h : NetAt w B nb n Ac Ar Au Ah cc cr cu ch s) (i : Int) (hi : i < 0 ∨ n ≤ i) :
    Calls Try.prog 15 #[.pointer (some ⟨nb, 0, none⟩), .int .i64 i] w fun e w' => e = .returned (.int .i64 0) ∧ w = w' := by
  have c0 := h.c0
  clear h
  go_enter Try.func15, Try.ntmps15
  go_wp2_with (go_at_call 25; refine (there_no _ _ _ _ _ _ c0 hi).mono ?_; rintro e w' ⟨rfl, rfl⟩)
  go_ret
  exact ⟨rfl, rfl⟩
theorem pget_full (h : NetAt w B nb n Ac Ar Au Ah cc cr cu ch s) {k : Nat} (hk : k < n) (hu : s.us.getD k 0 = 65535) :
    Calls Try.prog 12 #[.pointer (some ⟨nb, 0, none⟩), .int .i64 k] w fun e w' => e = .returned (.tuple #[.slice none 0 0, .int .i64 3]) ∧ w = w' := by
  obtain ⟨gu, rfl, _, hrow⟩ := h.row_u (by omega)
  have hlenu := h.lenu
  have c0 := h.c0
  have c2 := h.c2
  have hcl := hrow.cell (k := k) (by rw [i64s_len]; omega)
  rw [i64s_get _ _ (by omega), hu] at hcl
  have hki : (k : Int) < (n : Int) := by omega
  clear hrow hlenu h hu
  go_enter Try.func12, Try.ntmps12
  go_wp2_with (go_at_call 25; refine (there_ok _ _ _ _ _ _ c0 (by omega) (by omega)).mono ?_; rintro e w' ⟨rfl, rfl⟩)
  go_ret2
  exact ⟨rfl, rfl⟩
end
set_option maxRecDepth 100000 in
set_option maxHeartbeats 2000000 in
theorem pset_via {w : World} {B nb n : Nat} {Ac Ar Au Ah : Option Addr} {cc cr cu ch : Nat} {s : St} (h : NetAt w B nb n Ac Ar Au Ah cc cr cu ch s) (hi : Inv s) {k : Nat} (hk : k < s.l.length) (want d : Int) (h1 : 0 ≤ want) (h2 : want ≤ 1099511627776)
    (hd : d = (roundOf (baseOf s.rs s.l[k] * s.l[k].mul) want).1) (l' : List Clk) (hl' : l' = s.l.set k { s.l[k] with div := d }) (R : Ending → World → Prop)
    (hQ : ∀ w4 g c3, Below w.heap.size w w4 → RowAt w4 g 30 (clkCells l') → w.heap.size ≤ g → Calls Try.prog 48 #[.pointer (some ⟨nb, 0, none⟩), .slice (some ⟨g, 0, none⟩) n c3] w4 fun e w' => ∃ A m c z, e = .returned (.tuple #[.slice A m c, .int .i64 z]) ∧ R e w') :
    Calls Try.prog 29 #[.pointer (some ⟨nb, 0, none⟩), .int .i64 k, .int .i64 want] w R := by
  have hr := round_ok h hi hk want h1 h2
  rw [← hd] at hr
  have hlen := h.len
  have hn5 : n ≤ 512 := by rw [hlen]; exact (mayB_iff.1 hi.may).1
  have hcell : (clkCells s.l).set (k * 7 + 3) (.int .i64 d) = clkCells l' := by rw [hl']; exact clk_set_cell hk (by omega) rfl
  have hb := h.lt
  have hcs : (clkCells s.l).length = n * 7 := by rw [clkCells, flat_length _ 7 clk_len, hlen]
  have hkn : k < n := by omega
  have hki : (k : Int) < (n : Int) := by omega
  have hdiv : (clkCells s.l)[k * 7 + 3]? = some (.int .i64 s.l[k].div) := by rw [clkCells, flat_get _ 7 clk_len s.l k 3 hk (by omega)]; rfl
  have c0 := h.c0
  have hseg := h.vc.seg
  have HR := Lib.hid hr
  have HC := Lib.hid hcell
  have HL := Lib.hid hlen
  have HCS := Lib.hid hcs
  have HDV := Lib.hid hdiv
  have HS := Lib.hid hseg
  have HQ := Lib.hid hQ
  clear hr hcell hlen hcs hd hl' h hi hseg hQ hdiv
  go_enter Try.func29, Try.ntmps29
  go_wp2_with (first
    | (go_at_call 8; refine HR.out.mono ?_; rintro e w1 ⟨rfl, hb1⟩; have k0 := (hb1.cell (p := ⟨nb, 0, none⟩) hb).trans c0; have HB1 := Lib.hid hb1; clear hb1)
    | (go_at_call 24
       refine (clone_any Ac cc s.l n HL.out w1 w.heap.size HB1.out.size (HS.out.below HB1.out) (by omega)).mono ?_
       rintro e w2 ⟨A', c', rfl, hown, hb2⟩
       obtain ⟨g, rfl, hg1, hg2, hrow⟩ := RowAt.of_own hown (by omega)
       have hfz := hrow.frozen (k * 7 + 3)
       have hcl := hrow.cell (k := k * 7 + 3) (by rw [HCS.out]; omega)
       rw [HDV.out] at hcl
       have hst := hrow.store (k * 7 + 3) (.int .i64 d)
       rw [HC.out] at hst
       have hb4 := (HB1.out.trans (hb2.mono HB1.out.size)).setCell (p := ⟨g, k * 7 + 3, none⟩) (show w.heap.size ≤ g from Nat.le_trans HB1.out.size hg1) (.int .i64 d)
       have hx := HQ.out _ _ c' hb4 hst (Nat.le_trans HB1.out.size hg1)
       have HX := Lib.hid hx
       clear hown hrow hst hb4 hx hb2)
    | (go_at_call 48; refine HX.out.mono ?_; rintro e w5 ⟨A5, m5, c5, z5, rfl, hR⟩; have HRR := Lib.hid hR; clear hR))
  exact HRR.out
end Go.Proofs.Ytbahclnpgdejlaa
