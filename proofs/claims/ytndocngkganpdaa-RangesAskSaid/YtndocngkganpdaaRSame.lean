/- The document's Same: the contract. -/
import Derived.Test.YtndocngkganpdaaOwn
set_option linter.unusedVariables false
namespace Go.Proofs.Ytndocngkganpdaa
open Go.RowKit
/-! The plain law of 'the same'. -/
theorem sp_len {a b : List Pr} (h : a.length ≠ b.length) : sameProps a b = false := by
  unfold sameProps
  rw [beq_eq_false_iff_ne.2 h]; rfl
theorem sp_at {a b : List Pr} {i : Nat} (ha : i < a.length) (hb : i < b.length) (h : ¬ (a[i].n = b[i].n ∧ a[i].v = b[i].v)) : sameProps a b = false := by
  unfold sameProps
  rw [Bool.and_eq_false_iff]
  right
  rw [Bool.eq_false_iff]
  intro hh
  have := all_range.1 hh i ha
  rw [List.getElem?_eq_getElem ha, List.getElem?_eq_getElem hb] at this
  simp only [Bool.and_eq_true, decide_eq_true_eq] at this
  exact h this
theorem sp_all {a b : List Pr} (hl : a.length = b.length) (h : ∀ (i : Nat) (ha : i < a.length) (hb : i < b.length), a[i].n = b[i].n ∧ a[i].v = b[i].v) : sameProps a b = true := by
  unfold sameProps
  rw [hl, beq_self_eq_true, Bool.true_and]
  rw [← hl, all_range]
  intro i hi
  rw [List.getElem?_eq_getElem hi, List.getElem?_eq_getElem (by omega)]
  simpa using h i hi (by omega)
theorem sb_len {a b : List Nd} (h : a.length ≠ b.length) : sameB a b = false := by
  unfold sameB
  rw [beq_eq_false_iff_ne.2 h]; rfl
theorem sb_at {a b : List Nd} {i : Nat} (ha : i < a.length) (hb : i < b.length) (h : sameNode a[i] b[i] = false) : sameB a b = false := by
  unfold sameB
  rw [Bool.and_eq_false_iff]
  right
  rw [Bool.eq_false_iff]
  intro hh
  have := all_range.1 hh i ha
  rw [List.getElem?_eq_getElem ha, List.getElem?_eq_getElem hb] at this
  simp only at this
  rw [h] at this
  cases this
theorem sb_all {a b : List Nd} (hl : a.length = b.length) (h : ∀ (i : Nat) (ha : i < a.length) (hb : i < b.length), sameNode a[i] b[i] = true) : sameB a b = true := by
  unfold sameB
  rw [hl, beq_self_eq_true, Bool.true_and]
  rw [← hl, all_range]
  intro i hi
  rw [List.getElem?_eq_getElem hi, List.getElem?_eq_getElem (by omega)]
  exact h i hi (by omega)
theorem sn_p {a b : Nd} (h : a.p ≠ b.p) : sameNode a b = false := by
  unfold sameNode
  rw [beq_eq_false_iff_ne.2 h]; rfl
theorem sn_n {a b : Nd} (h : a.n ≠ b.n) : sameNode a b = false := by
  unfold sameNode
  rw [decide_eq_false h]; simp
theorem sn_ps {a b : Nd} (h : sameProps a.ps b.ps = false) : sameNode a b = false := by
  unfold sameNode
  rw [h]; simp
theorem sn_all {a b : Nd} (h1 : a.p = b.p) (h2 : a.n = b.n) (h3 : sameProps a.ps b.ps = true) : sameNode a b = true := by
  unfold sameNode
  rw [h3, h1, h2]; simp
/-- The two nodes at i as the walk reads them, and what follows for the whole. -/
structure Two (r : Bool) (P Q : Int) (s t : ByteArray) (m m' : Nat) (ps qs : List Pr) : Prop where
  len : m = ps.length
  len' : m' = qs.length
  p : P ≠ Q → r = false
  n : s ≠ t → r = false
  l : m ≠ m' → r = false
  at_ : ∀ (k : Nat) (h : k < ps.length) (h' : k < qs.length), ¬ (ps[k].n = qs[k].n ∧ ps[k].v = qs[k].v) → r = false
theorem two_of {a b : List Nd} {i : Nat} (ha : i < a.length) (hb : i < b.length) : Two (sameB a b) a[i].p b[i].p a[i].n b[i].n a[i].ps.length b[i].ps.length a[i].ps b[i].ps :=
  ⟨rfl, rfl, fun h => sb_at ha hb (sn_p h), fun h => sb_at ha hb (sn_n h), fun h => sb_at ha hb (sn_ps (sp_len h)), fun k h h' hh => sb_at ha hb (sn_ps (sp_at h h' hh))⟩
theorem cell_move {w wr w1 : World} {n : Nat} {p : Addr} {u : Value} (h : wr.cell? p = some u) (hb : Below n w wr) (hb1 : Below n w w1) (hp : p.block < n) : w1.cell? p = some u := (hb1.cell hp).trans ((hb.cell hp).symm.trans h)
theorem seg_move {w wr w1 : World} {n B : Nat} {a : Option Addr} {xs : List Value} (h : Seg wr B a xs) (hb : Below n w wr) (hb1 : Below n w w1) (hB : B ≤ n) : Seg w1 B a xs := h.keep fun p hp => (hb1.cell (by omega)).trans (hb.cell (by omega)).symm
end Go.Proofs.Ytndocngkganpdaa
