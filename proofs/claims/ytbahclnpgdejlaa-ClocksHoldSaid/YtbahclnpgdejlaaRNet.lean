/- The document's net in memory: the small contracts, and On as plain data. -/
import Derived.Test.YtbahclnpgdejlaaRRates
import Derived.Test.YtbahclnpgdejlaaRMay
import Derived.Test.YtbahclnpgdejlaaBal
set_option linter.unusedVariables false
namespace Go.Proofs.Ytbahclnpgdejlaa
open Go.RowKit
/-- The document's net in memory. -/
structure RNet (w : World) (B rb n : Nat) (Al Au : Option Addr) (cl cu : Nat) (l : List Clk) (us : List Int) : Prop where
  low : B ≤ rb
  len : n = l.length
  lenu : n = us.length
  box : w.heap[rb]? = some (.cells #[.slice Al n cl, .slice Au n cu] 87 (0, 0))
  vl : Vec w B Al 81 (clkCells l)
  vu : Vec w B Au 3 (i64s us)
section
variable {w w' : World} {B rb n : Nat} {Al Au : Option Addr} {cl cu : Nat} {l : List Clk} {us : List Int}
theorem RNet.c0 (h : RNet w B rb n Al Au cl cu l us) : w.cell? ⟨rb, 0, none⟩ = some (.slice Al n cl) := cell_of_row w rb 0 _ _ (0, 0) h.box
theorem RNet.c1 (h : RNet w B rb n Al Au cl cu l us) : w.cell? ⟨rb, 1, none⟩ = some (.slice Au n cu) := cell_of_row w rb 1 _ _ (0, 0) h.box
theorem RNet.lt (h : RNet w B rb n Al Au cl cu l us) : rb < w.heap.size := lt_of_heap h.box
theorem RNet.below (h : RNet w B rb n Al Au cl cu l us) (hb : Below w.heap.size w w') : RNet w' B rb n Al Au cl cu l us :=
  ⟨h.low, h.len, h.lenu, (hb.block rb h.lt).trans h.box, h.vl.below hb, h.vu.below hb⟩
theorem RNet.row_u (h : RNet w B rb n Al Au cl cu l us) (hn : 0 < n) : ∃ gu, Au = some ⟨gu, 0, none⟩ ∧ B ≤ gu ∧ RowAt w gu 3 (i64s us) :=
  h.vu (by intro e; have := congrArg List.length e; simp [i64s] at this; have := h.lenu; rw [‹us = []›] at this; simp at this; omega)
theorem RNet.row_l (h : RNet w B rb n Al Au cl cu l us) (hn : 0 < n) : ∃ gl, Al = some ⟨gl, 0, none⟩ ∧ B ≤ gl ∧ RowAt w gl 81 (clkCells l) :=
  h.vl (by intro e; have := congrArg List.length e; rw [clkCells, flat_length _ 7 clk_len] at this; have := h.len; simp at *; omega)
end
theorem rthere_yes (rb n c : Nat) (A : Option Addr) (i : Int) (w : World) (h0 : w.cell? ⟨rb, 0, none⟩ = some (.slice A n c)) (h1 : 0 ≤ i) (h2 : i < n) :
    Calls Try.prog 49 #[.pointer (some ⟨rb, 0, none⟩), .int .i64 i] w fun e w' => e = .returned (.bool true) ∧ w = w' := by
  go_enter Try.func49, Try.ntmps49
  go_wp2
  go_ret
  exact ⟨rfl, rfl⟩
theorem rthere_no (rb n c : Nat) (A : Option Addr) (i : Int) (w : World) (h0 : w.cell? ⟨rb, 0, none⟩ = some (.slice A n c)) (h1 : i < 0 ∨ n ≤ i) :
    Calls Try.prog 49 #[.pointer (some ⟨rb, 0, none⟩), .int .i64 i] w fun e w' => e = .returned (.bool false) ∧ w = w' := by
  by_cases h2 : i < 0
  · clear h1
    go_enter Try.func49, Try.ntmps49
    go_wp2
    go_ret
    exact ⟨rfl, rfl⟩
  · have h3 : (n : Int) ≤ i := by omega
    have h4 : 0 ≤ i := by omega
    clear h1 h2
    go_enter Try.func49, Try.ntmps49
    go_wp2
    go_ret
    exact ⟨ret_bool (by simp; omega), rfl⟩
theorem rrate_ok {w : World} {B rb n : Nat} {Al Au : Option Addr} {cl cu : Nat} {l : List Clk} {us : List Int} (h : RNet w B rb n Al Au cl cu l us) (hg : Good l) (hn5 : n ≤ 512) {k : Nat} (hk : k < n) :
    Calls Try.prog 43 #[.pointer (some ⟨rb, 0, none⟩), .int .i64 k] w fun e w' => e = .returned (.tuple #[.int .i64 ((capRates l).getD k 0), .int .i64 0]) ∧ Below w.heap.size w w' := by
  have c0 := h.c0
  have hr := rates_any Al cl l n h.len hg w w.heap.size (Nat.le_refl _) h.vl.seg (by omega)
  have hlen := h.len
  have HR := Lib.hid hr
  have HL := Lib.hid hlen
  have hki : (k : Int) < (n : Int) := by omega
  clear hr hlen h
  obtain ⟨v, hv⟩ : ∃ v, v = (capRates l).getD k 0 := ⟨_, rfl⟩
  rw [← hv]
  have HV := Lib.hid hv
  clear hv
  go_enter Try.func43, Try.ntmps43
  go_wp2_with (first
    | (go_at_call 49; refine (rthere_yes _ _ _ _ _ _ c0 (by omega) (by omega)).mono ?_; rintro e w' ⟨rfl, rfl⟩)
    | (go_at_call 33; refine HR.out.mono ?_; rintro e w2 ⟨A', c', rfl, hown, hb⟩; obtain ⟨g, rfl, hg1, hg2, hrow⟩ := RowAt.of_own hown (by omega); have hcl := hrow.cell (k := k) (by rw [i64s_len, capRates_len, ← HL.out]; omega); rw [i64s_get _ _ (by rw [capRates_len, ← HL.out]; omega), ← HV.out] at hcl; clear hown hrow))
  go_ret2
  exact ⟨rfl, hb⟩
theorem rrate_no {w : World} {B rb n : Nat} {Al Au : Option Addr} {cl cu : Nat} {l : List Clk} {us : List Int} (h : RNet w B rb n Al Au cl cu l us) (i : Int) (hi : i < 0 ∨ n ≤ i) :
    Calls Try.prog 43 #[.pointer (some ⟨rb, 0, none⟩), .int .i64 i] w fun e w' => e = .returned (.tuple #[.int .i64 0, .int .i64 1]) ∧ w = w' := by
  have c0 := h.c0
  clear h
  go_enter Try.func43, Try.ntmps43
  go_wp2_with (go_at_call 49; refine (rthere_no _ _ _ _ _ _ c0 hi).mono ?_; rintro e w' ⟨rfl, rfl⟩)
  go_ret2
  exact ⟨rfl, rfl⟩
theorem away_any (a b : Int) (w : World) (h1 : 0 ≤ a) (h2 : a ≤ 4611686018427387904) (h3 : 0 ≤ b) (h4 : b ≤ 4611686018427387904) :
    Calls Try.prog 52 #[.int .i64 a, .int .i64 b] w fun e w' => e = .returned (.int .i64 (dist a b)) ∧ w = w' := by
  go_enter Try.func52, Try.ntmps52
  go_wp2
  all_goals go_ret
  all_goals exact ⟨ret_int (by unfold dist; omega), rfl⟩
/-- The document's On, from the last clock down to place m. -/
def onB (l : List Clk) (hs : List Int) (m j : Nat) : Bool := if m ≤ j then decide (0 < hs.getD j 0) else decide (kids l hs j m < kids l hs j l.length)
def onL (l : List Clk) (hs : List Int) (m : Nat) : List Bool := (List.range l.length).map (onB l hs m)
theorem onL_len (l : List Clk) (hs : List Int) (m : Nat) : (onL l hs m).length = l.length := by simp [onL]
theorem onL_get (l : List Clk) (hs : List Int) (m j : Nat) (h : j < l.length) : (onL l hs m)[j]? = some (onB l hs m j) := by simp [onL, h]
theorem onL_top (l : List Clk) (hs : List Int) : onL l hs l.length = List.replicate l.length false := by
  apply List.ext_getElem?
  intro j
  by_cases h : j < l.length
  · rw [onL_get _ _ _ _ h, List.getElem?_replicate, if_pos h]
    unfold onB
    rw [if_neg (by omega)]
    simp
  · rw [List.getElem?_eq_none (by rw [onL_len]; omega), List.getElem?_replicate, if_neg h]
theorem kids_none {l : List Clk} (hg : Good l) (hs : List Int) (k : Nat) : ∀ m, m ≤ k + 1 → m ≤ l.length → kids l hs k m = 0
  | 0, _, _ => rfl
  | m + 1, h, hl => by
    have := frm_lt hg (show m < l.length by omega)
    unfold kids
    rw [kids_none hg hs k m (by omega) (by omega), if_neg (by omega)]
    rfl
theorem onB_mid {l : List Clk} {hs us : List Int} (hg : Good l) (hb : Bal l (fun j => us.getD j 0) hs) (hu : ∀ j, 0 ≤ us.getD j 0) {k : Nat} (hk : k < l.length) : decide (0 < hs.getD k 0) = (onB l hs (k + 1) k || decide (0 < us.getD k 0)) := by
  have h1 := hb k hk
  have h2 := kids_nonneg l hs k l.length
  have h3 := hu k
  unfold onB
  rw [if_neg (by omega), kids_none hg hs k (k + 1) (by omega) (by omega)]
  simp only at h1
  generalize hs.getD k 0 = a at *
  generalize us.getD k 0 = b at *
  rw [Bool.eq_iff_iff]
  simp
  omega
theorem onL_off {l : List Clk} {hs : List Int} {k : Nat} (hk : k < l.length) (h0 : ¬ 0 < hs.getD k 0) : (onL l hs (k + 1)).set k false = onL l hs k := by
  apply List.ext_getElem?
  intro j
  by_cases hj : j < l.length
  · rw [List.getElem?_set, onL_get _ _ _ _ hj, onL_get _ _ _ _ hj]
    by_cases e : k = j
    · subst e
      rw [if_pos rfl, if_pos (by rw [onL_len]; exact hk)]
      simp only [onB, if_pos (Nat.le_refl k), decide_eq_false h0]
    · rw [if_neg e]
      unfold onB
      by_cases h : k ≤ j
      · rw [if_pos (by omega), if_pos h]
      · rw [if_neg (by omega), if_neg h]
        have : kids l hs j (k + 1) = kids l hs j k := by
          conv => lhs; unfold kids
          rw [onI_neg h0]
          split <;> simp
        rw [this]
  · rw [List.getElem?_eq_none (by simp [onL_len]; omega), List.getElem?_eq_none (by simp [onL_len]; omega)]
theorem onL_on {l : List Clk} {hs : List Int} (hg : Good l) {k : Nat} (hk : k < l.length) (h0 : 0 < hs.getD k 0) : 
    (frmAt l k < 0 → (onL l hs (k + 1)).set k true = onL l hs k) ∧ ∀ f : Nat, frmAt l k = f → ((onL l hs (k + 1)).set k true).set f true = onL l hs k := by
  have hf := frm_lt hg hk
  have hkids : ∀ j : Nat, kids l hs j (k + 1) = kids l hs j k + (if frmAt l k = j then 1 else 0) := fun j => by
    conv => lhs; unfold kids
    rw [onI_pos h0]
  have hmono : ∀ (j a b : Nat), a ≤ b → kids l hs j a ≤ kids l hs j b := by
    intro j a b hab
    induction b with
    | zero =>
      obtain rfl : a = 0 := by omega
      exact Int.le_refl _
    | succ b ih =>
      rcases (show a ≤ b ∨ a = b + 1 by omega) with h | rfl
      · have := ih h
        have h2 := onI_bd (hs.getD b 0)
        conv => rhs; unfold kids
        split <;> omega
      · exact Int.le_refl _
  constructor
  · intro hneg
    apply List.ext_getElem?
    intro j
    by_cases hj : j < l.length
    · rw [List.getElem?_set, onL_get _ _ _ _ hj, onL_get _ _ _ _ hj]
      by_cases e : k = j
      · subst e
        rw [if_pos rfl, if_pos (by rw [onL_len]; exact hk)]
        simp only [onB, if_pos (Nat.le_refl k), decide_eq_true h0]
      · rw [if_neg e]
        unfold onB
        by_cases h : k ≤ j
        · rw [if_pos (by omega), if_pos h]
        · rw [if_neg (by omega), if_neg h, hkids, if_neg (by omega)]
          simp
    · rw [List.getElem?_eq_none (by simp [onL_len]; omega), List.getElem?_eq_none (by simp [onL_len]; omega)]
  · intro f hff
    apply List.ext_getElem?
    intro j
    by_cases hj : j < l.length
    · rw [List.getElem?_set, List.getElem?_set, onL_get _ _ _ _ hj, onL_get _ _ _ _ hj]
      simp only [List.length_set, onL_len]
      by_cases e2 : f = j
      · subst e2
        rw [if_pos rfl, if_pos hj]
        unfold onB
        rw [if_neg (by omega)]
        have := hkids f
        rw [if_pos hff] at this
        have := hmono f (k + 1) l.length (by omega)
        rw [decide_eq_true (by omega)]
      · rw [if_neg e2]
        by_cases e : k = j
        · subst e
          rw [if_pos rfl, if_pos hk]
          simp only [onB, if_pos (Nat.le_refl k), decide_eq_true h0]
        · rw [if_neg e]
          unfold onB
          by_cases h : k ≤ j
          · rw [if_pos (by omega), if_pos h]
          · rw [if_neg (by omega), if_neg h, hkids, if_neg (by omega)]
            simp
    · rw [List.getElem?_eq_none (by simp [onL_len]; omega), List.getElem?_eq_none (by simp [onL_len]; omega)]
end Go.Proofs.Ytbahclnpgdejlaa
