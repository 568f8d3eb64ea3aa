/- The card that fits: plain law. -/
import Derived.Test.YtiheibcookcbdaaCCheck
import Derived.WalkLawsBesides
set_option linter.unusedVariables false
namespace Go.Proofs.Ytiheibcookcbdaa
open Go.RowKit
/-- Does card x go ahead of the best one so far? -/
def aheadB (l : List Cc) (b : Int) (x : Cc) : Bool := decide (b < 0) || match l[b.toNat]? with
  | some y => betterB x.sc y.sc x.nm y.nm
  | none => false
/-- The best of the first k cards for a text. -/
def bestF (l : List Cc) (t : ByteArray) : Nat → Int
  | 0 => -1
  | k + 1 => match l[k]? with
    | some x => if hasB x.ts t && aheadB l (bestF l t k) x then (k : Int) else bestF l t k
    | none => bestF l t k
theorem best_zero (l : List Cc) (t : ByteArray) : bestF l t 0 = -1 := rfl
theorem best_bd (l : List Cc) (t : ByteArray) : ∀ k : Nat, -1 ≤ bestF l t k ∧ bestF l t k < (k : Int)
  | 0 => by unfold bestF; omega
  | k + 1 => by
    have ih := best_bd l t k
    unfold bestF
    split
    · split <;> omega
    · omega
theorem best_no {l : List Cc} {t : ByteArray} {k : Nat} (hk : k < l.length) (h : hasB l[k].ts t = false) : bestF l t (k + 1) = bestF l t k := by
  rw [bestF, List.getElem?_eq_getElem hk]
  simp only [h, Bool.false_and]
  rfl
theorem best_first {l : List Cc} {t : ByteArray} {k : Nat} (hk : k < l.length) (h : hasB l[k].ts t = true) (hb : bestF l t k < 0) : bestF l t (k + 1) = k := by
  rw [bestF, List.getElem?_eq_getElem hk]
  simp only [h, aheadB, decide_eq_true hb, Bool.true_or, Bool.and_true]
  rfl
theorem best_on {l : List Cc} {t : ByteArray} {k j : Nat} (hk : k < l.length) (hj : j < l.length) (h : hasB l[k].ts t = true) (hb : bestF l t k = (j : Int)) :
    bestF l t (k + 1) = if betterB l[k].sc l[j].sc l[k].nm l[j].nm then (k : Int) else (j : Int) := by
  rw [bestF, List.getElem?_eq_getElem hk]
  have h0 : decide ((j : Int) < 0) = false := by simp
  simp only [h, aheadB, hb, h0, Int.toNat_natCast, List.getElem?_eq_getElem hj, Bool.true_and, Bool.false_or]
/-- The card and the text, from a place on. -/
def fitsFrom (l : List Cc) : Nat → List ByteArray → Int × Int
  | _, [] => (-1, 0)
  | i, t :: r => if 0 ≤ bestF l t l.length then (bestF l t l.length, (i : Int)) else fitsFrom l (i + 1) r
def fitsF (l : List Cc) (ts : List ByteArray) : Int × Int := fitsFrom l 0 ts
theorem from_yes {l : List Cc} {ts : List ByteArray} {k : Nat} (hk : k < ts.length) (h : 0 ≤ bestF l ts[k] l.length) : fitsFrom l k (ts.drop k) = (bestF l ts[k] l.length, (k : Int)) := by
  rw [List.drop_eq_getElem_cons hk, fitsFrom, if_pos h]
theorem from_no {l : List Cc} {ts : List ByteArray} {k : Nat} (hk : k < ts.length) (h : ¬ 0 ≤ bestF l ts[k] l.length) : fitsFrom l k (ts.drop k) = fitsFrom l (k + 1) (ts.drop (k + 1)) := by
  rw [List.drop_eq_getElem_cons hk, fitsFrom, if_neg h]
theorem from_end {l : List Cc} {ts : List ByteArray} {k : Nat} (hk : ts.length ≤ k) : fitsFrom l k (ts.drop k) = (-1, 0) := by
  rw [List.drop_eq_nil_of_le hk]; rfl
theorem from_ways (l : List Cc) : ∀ (ts : List ByteArray) (i : Nat), fitsFrom l i ts = (-1, 0) ∨ 0 ≤ (fitsFrom l i ts).1
  | [], i => .inl rfl
  | t :: r, i => by
    rw [fitsFrom]
    split
    · exact .inr (by assumption)
    · exact from_ways l r (i + 1)
/-- What Fit answers: the card, the text, the error. -/
def fitF (l : List Cc) (ts : List ByteArray) : Int × Int × Int :=
  if allOk l = true then if (fitsF l ts).1 < 0 then (0, 0, 6) else ((fitsF l ts).1, (fitsF l ts).2, 0) else (0, 0, 70)
theorem Cards.seven {w : World} {B : Nat} {a : Option Addr} {l : List Cd} (h : Cards w B a l) {b off : Nat} (ha : a = some ⟨b, off, none⟩) {k : Nat} (hk : k < l.length) : b < B ∧
    w.cell? ⟨b, off + k * 7, none⟩ = some (.string l[k].d.nm) ∧ w.cell? ⟨b, off + k * 7 + 1, none⟩ = some (.string l[k].d.fam) ∧ w.cell? ⟨b, off + k * 7 + 2, none⟩ = some (.int .u8 (l[k].d.lv : Int)) ∧
    w.cell? ⟨b, off + k * 7 + 3, none⟩ = some (.slice l[k].A l[k].d.ts.length l[k].c) ∧ w.cell? ⟨b, off + k * 7 + 4, none⟩ = some (.int .i8 l[k].d.sc) ∧ w.cell? ⟨b, off + k * 7 + 5, none⟩ = some (.string l[k].d.qk) ∧
    w.cell? ⟨b, off + k * 7 + 6, none⟩ = some (.int .i16 l[k].d.en) := by
  subst ha
  obtain ⟨b', off', e, hb, x0, x1, x2, x3, x4, x5, x6, _⟩ := h.at_ hk
  injection e with e
  injection e with e1 e2
  subst e1 e2
  exact ⟨hb, x0, x1, x2, x3, x4, x5, x6⟩
end Go.Proofs.Ytiheibcookcbdaa
