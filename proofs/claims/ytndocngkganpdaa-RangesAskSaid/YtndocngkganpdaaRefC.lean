/- The document's next: the contract. -/
/- The document's next: the contract. -/
import Derived.Test.YtndocngkganpdaaRefB
set_option linter.unusedVariables false
namespace Go.Proofs.Ytndocngkganpdaa
open Go.RowKit
theorem str_nil (s : ByteArray) : s.toList.isEmpty = decide (s = ByteArray.empty) := by
  rw [ByteArray.toList_eq]
  obtain ⟨⟨l⟩⟩ := s
  rw [Bool.eq_iff_iff]
  simp only [List.isEmpty_iff, decide_eq_true_eq]
  constructor
  · rintro h
    show ByteArray.mk ⟨l⟩ = ByteArray.mk #[]
    rw [show l = [] from h]
  · intro h
    have := congrArg (fun b => b.data.toList) h
    exact this
/-- Whether a node fits, by its parts. -/
structure Fits (r : Bool) (l : List Nd) (i : Nat) (P : Int) (s : ByteArray) (bp bn : Bool) : Prop where
  big : 512 ≤ i → r = false
  props : bp = false → r = false
  root : i = 0 → bp = true → r = ((P == -1) && s.toList.isEmpty)
  name : i ≠ 0 → bn = false → r = false
  neg : i ≠ 0 → P < 0 → r = false
  late : i ≠ 0 → (i : Int) ≤ P → r = false
  path : i ≠ 0 → (above l ((i : Int) - 1)).contains P = false → r = false
  deep : i ≠ 0 → 16 < (above l P).length + 1 → r = false
  twin : ∀ (j : Nat) (h : j < l.length), 1 ≤ j → j < i → l[j].p = P → l[j].n = s → r = false
  ok : i ≠ 0 → i < 512 → bp = true → bn = true → 0 ≤ P → P < i → (above l ((i : Int) - 1)).contains P = true → (above l P).length + 1 ≤ 16 →
    (∀ (j : Nat) (h : j < l.length), 1 ≤ j → j < i → l[j].p = P → l[j].n ≠ s) → r = true
theorem fits {l : List Nd} {i : Nat} (hi : i < l.length) : Fits (nodeOkB l i) l i l[i].p l[i].n (propsB l[i].ps) (nameB l[i].n.data.toList) := by
  have hcast : i ≠ 0 → ((i - 1 : Nat) : Int) = (i : Int) - 1 := by omega
  refine ⟨?_, ?_, ?_, ?_, ?_, ?_, ?_, ?_, ?_, ?_⟩
  · intro h
    rw [node_some hi (by omega), decide_eq_false (by omega)]; rfl
  · intro h
    by_cases h0 : i = 0
    · subst h0; rw [node_zero hi, h]; rfl
    · rw [node_some hi h0, h]; simp
  · intro h0 h
    subst h0
    rw [node_zero hi, h, str_nil]; rfl
  · intro h0 h
    rw [node_some hi h0, h]; simp
  · intro h0 h
    rw [node_some hi h0, decide_eq_false (show ¬ 0 ≤ l[i].p by omega)]; simp
  · intro h0 h
    rw [node_some hi h0, decide_eq_false (show ¬ l[i].p < i by omega)]; simp
  · intro h0 h
    rw [node_some hi h0, hcast h0, h]; simp
  · intro h0 h
    rw [node_some hi h0, decide_eq_false (show ¬ (above l l[i].p).length + 1 ≤ 16 by omega)]; simp
  · intro j hj h1 h2 h3 h4
    rw [node_some hi (by omega), (twin_iff (by omega) _ _).2 ⟨j, hj, h1, h2, h3, h4⟩]; simp
  · intro h0 a1 a2 a3 a4 a5 a6 a7 a8
    have ht : twinB l i l[i].p l[i].n = false := by
      rw [Bool.eq_false_iff]
      intro ht
      obtain ⟨j, hj, h1, h2, h3, h4⟩ := (twin_iff (by omega) _ _).1 ht
      exact a8 j hj h1 h2 h3 h4
    rw [node_some hi h0, hcast h0, a2, a3, a6, ht, decide_eq_true a1, decide_eq_true a4, decide_eq_true a5, decide_eq_true a7]; rfl
end Go.Proofs.Ytndocngkganpdaa
