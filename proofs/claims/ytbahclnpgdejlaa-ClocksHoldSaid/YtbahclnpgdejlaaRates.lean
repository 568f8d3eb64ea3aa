/- The rates of clocks as plain data. -/
import Derived.Test.YtbahclnpgdejlaaBasic
set_option linter.unusedVariables false
namespace Go.Proofs.Ytbahclnpgdejlaa
open Go.RowKit
def rateStep (rs : List Int) (c : Clk) : List Int := rs ++ [baseOf rs c * c.mul / c.div]
def ratesOf (l : List Clk) : List Int := l.foldl rateStep []
theorem ratesOf_snoc (l : List Clk) (k : Nat) (h : k < l.length) : ratesOf (l.take (k + 1)) = ratesOf (l.take k) ++ [baseOf (ratesOf (l.take k)) l[k] * l[k].mul / l[k].div] := by
  unfold ratesOf
  rw [List.take_succ_eq_append_getElem h, List.foldl_append]
  rfl
theorem foldl_len (l : List Clk) : ∀ rs, (l.foldl rateStep rs).length = rs.length + l.length := by
  induction l with
  | nil => intro rs; rfl
  | cons c l ih => intro rs; rw [List.foldl_cons, ih]; simp [rateStep]; omega
theorem ratesOf_len (l : List Clk) : (ratesOf l).length = l.length := by simp [ratesOf, foldl_len]
theorem foldl_pre (l : List Clk) : ∀ rs, ∃ t, l.foldl rateStep rs = rs ++ t := by
  induction l with
  | nil => intro rs; exact ⟨[], by simp⟩
  | cons c l ih => intro rs; obtain ⟨t, ht⟩ := ih (rateStep rs c); exact ⟨_, by rw [List.foldl_cons, ht, rateStep, List.append_assoc]⟩
theorem ratesOf_pre (l : List Clk) (k : Nat) : ∃ t, ratesOf l = ratesOf (l.take k) ++ t := by
  obtain ⟨t, ht⟩ := foldl_pre (l.drop k) (ratesOf (l.take k))
  refine ⟨t, ?_⟩
  rw [← ht]
  unfold ratesOf
  rw [← List.foldl_append, List.take_append_drop]
/-- The k-th rate, out of those ahead of it. -/
theorem ratesOf_at (l : List Clk) (k : Nat) (h : k < l.length) : (ratesOf l).getD k 0 = baseOf (ratesOf (l.take k)) l[k] * l[k].mul / l[k].div := by
  obtain ⟨t, ht⟩ := ratesOf_pre l (k + 1)
  rw [ht, ratesOf_snoc l k h, List.append_assoc]
  have hl : (ratesOf (l.take k)).length = k := by rw [ratesOf_len]; simp; omega
  simp [List.getD, hl]
theorem ratesOf_same (l : List Clk) (k j : Nat) (hj : j < k) (hk : k ≤ l.length) : (ratesOf (l.take k)).getD j 0 = (ratesOf l).getD j 0 := by
  obtain ⟨t, ht⟩ := ratesOf_pre l k
  have hl : (ratesOf (l.take k)).length = k := by rw [ratesOf_len]; simp; omega
  rw [ht]
  simp [List.getD, List.getElem?_append_left, hl, hj]
def fitsAt (l : List Clk) (k : Nat) : Bool := match l[k]? with
  | some c => !decide ((ratesOf l).getD k 0 < c.lo) && !decide (c.hi < (ratesOf l).getD k 0)
  | none => true
theorem fitsAt_get (l : List Clk) (k : Nat) (h : k < l.length) : fitsAt l k = (!decide ((ratesOf l).getD k 0 < l[k].lo) && !decide (l[k].hi < (ratesOf l).getD k 0)) := by simp [fitsAt, h]
/-- Each clock is one, by its place. -/
def Good (l : List Clk) : Prop := ∀ j, j < l.length → okAt l j = true
structure OkClk (F R M D L H i : Int) : Prop where
  m1 : 1 ≤ M
  m2 : M ≤ 65535
  d1 : 1 ≤ D
  d2 : D ≤ 65535
  lo : 0 ≤ L
  hi : H ≤ 1099511627776
  src : (F = -1 ∧ 0 ≤ R ∧ R ≤ 1099511627776) ∨ (0 ≤ F ∧ F < i ∧ R = 0)
theorem okB_iff (F R M D L H i : Int) (h : okB F R M D L H i = true) : OkClk F R M D L H i := by
  simp [okB, facB] at h
  obtain ⟨⟨⟨⟨⟨h1, h2, h3⟩, h4, h5⟩, h6⟩, h7⟩, h8⟩ := h
  exact ⟨h2, h3, h4, h5, h6, h8, by omega⟩
theorem Good.at_ {l : List Clk} (h : Good l) {j : Nat} (hj : j < l.length) : OkClk l[j].frm l[j].rate l[j].mul l[j].div l[j].lo l[j].hi j := okB_iff _ _ _ _ _ _ _ (by rw [← okAt_get l j hj]; exact h j hj)
/-- What is ahead of a clock fits: so does what comes to it. -/
theorem base_bd {l : List Clk} (hg : Good l) {k : Nat} (hk : k < l.length) (hf : ∀ j, j < k → fitsAt l j = true) :
    0 ≤ baseOf (ratesOf (l.take k)) l[k] ∧ baseOf (ratesOf (l.take k)) l[k] ≤ 1099511627776 := by
  have o := hg.at_ hk
  unfold baseOf
  rcases o.src with ⟨h1, h2, h3⟩ | ⟨h1, h2, h3⟩
  · rw [if_pos (by omega)]; exact ⟨h2, h3⟩
  · rw [if_neg (by omega)]
    have hj : l[k].frm.toNat < k := by omega
    have of_ := hg.at_ (show l[k].frm.toNat < l.length by omega)
    have hff := hf _ hj
    rw [fitsAt_get l _ (by omega)] at hff
    rw [ratesOf_same l k _ hj (by omega)]
    simp at hff
    have := of_.lo
    have := of_.hi
    simp only [List.getD_eq_getElem?_getD] at hff ⊢
    omega
theorem prod_bd {v M D : Int} (h1 : 0 ≤ v) (h2 : v ≤ 1099511627776) (h3 : 1 ≤ M) (h4 : M ≤ 65535) (h5 : 1 ≤ D) : 0 ≤ v * M ∧ v * M ≤ 72056494526300160 ∧ 0 ≤ v * M / D ∧ v * M / D ≤ 72056494526300160 := by
  have a1 : 0 ≤ v * M := Int.mul_nonneg h1 (by omega)
  have a2 : v * M ≤ v * 65535 := Int.mul_le_mul_of_nonneg_left h4 h1
  have a3 : 0 ≤ v * M / D := Int.ediv_nonneg a1 (by omega)
  have a4 : v * M / D ≤ v * M := Int.ediv_le_self _ a1
  exact ⟨a1, by omega, a3, by omega⟩
def zeros (n : Nat) : List Int := List.replicate n 0
theorem set_rates (l : List Clk) (k n : Nat) (h : k < l.length) (hn : n = l.length) (r : Int) (hr : r = baseOf (ratesOf (l.take k)) l[k] * l[k].mul / l[k].div) :
    (i64s (ratesOf (l.take k) ++ zeros (n - k))).set k (.int .i64 r) = i64s (ratesOf (l.take (k + 1)) ++ zeros (n - (k + 1))) := by
  have hl : (ratesOf (l.take k)).length = k := by rw [ratesOf_len]; simp; omega
  rw [ratesOf_snoc l k h, ← hr]
  unfold i64s zeros
  obtain ⟨m, hm⟩ : ∃ m, n - k = m + 1 := ⟨n - k - 1, by omega⟩
  rw [hm, show n - (k + 1) = m from by omega, List.replicate_succ]
  simp [List.map_append, hl]
end Go.Proofs.Ytbahclnpgdejlaa
