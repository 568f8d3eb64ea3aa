/- Texts that may be: plain law. -/
import Derived.Test.YtiheibcookcbdaaDoorCont
import Derived.Test.YtiheibcookcbdaaDoorRName
set_option linter.unusedVariables false
namespace Go.Proofs.YtiheibcookcbdaaDoor
open Go.RowKit
theorem texts_iff {l : List ByteArray} : textsB l = true ↔ 1 ≤ l.length ∧ l.length ≤ 8 ∧ ∀ i (h : i < l.length), textB l[i] = true ∧ hasB (l.take i) l[i] = false := by
  unfold textsB
  rw [Bool.and_eq_true, Bool.and_eq_true, decide_eq_true_eq, decide_eq_true_eq, List.all_eq_true, and_assoc]
  refine and_congr_right fun _ => and_congr_right fun _ => ?_
  constructor
  · intro h i hi
    have := h i (List.mem_range.2 hi)
    unfold textOk at this
    rw [List.getElem?_eq_getElem hi] at this
    simpa [hasB] using this
  · intro h i hi
    have hi2 := List.mem_range.1 hi
    unfold textOk
    rw [List.getElem?_eq_getElem hi2]
    simpa [hasB] using h i hi2
theorem text_iff {t : ByteArray} : textB t = true ↔ 1 ≤ t.size ∧ t.size ≤ 63 ∧ ∀ k (h : k < t.size), (t[k]'h).toNat ≠ 0 := by
  unfold textB
  rw [Bool.and_eq_true, Bool.and_eq_true, decide_eq_true_eq, decide_eq_true_eq, List.all_eq_true, and_assoc]
  refine and_congr_right fun _ => and_congr_right fun _ => ?_
  constructor
  · intro h k hk e
    have := h (t[k]'hk) (by show t.data[k] ∈ _; simp)
    simp at this
    exact this (by rw [← UInt8.toNat_inj]; exact e)
  · intro h x hx
    obtain ⟨k, hk, rfl⟩ := List.mem_iff_getElem.1 hx
    have := h k (by simpa using hk)
    simp
    intro e
    exact this (congrArg UInt8.toNat e)
end Go.Proofs.YtiheibcookcbdaaDoor
