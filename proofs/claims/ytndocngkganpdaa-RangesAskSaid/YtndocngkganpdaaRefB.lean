/- The document's props: the contract. -/
import Derived.Test.YtndocngkganpdaaRefA
set_option linter.unusedVariables false
namespace Go.Proofs.Ytndocngkganpdaa
open Go.RowKit
theorem str_inj {t s : ByteArray} (h : t.toList = s.toList) : t = s := by
  rw [ByteArray.toList_eq, ByteArray.toList_eq] at h
  obtain ⟨a⟩ := t
  obtain ⟨b⟩ := s
  have : a = b := Array.toList_inj.1 h
  rw [this]
theorem str_ne {t s : ByteArray} (h : t ≠ s) : (t.toList == s.toList) = false := by
  rw [beq_eq_false_iff_ne]
  exact fun e => h (str_inj e)
theorem props_no {ps : List Pr} {k : Nat} (hk : k < ps.length) (h : propOkB ps k = false) : propsB ps = false := by
  unfold propsB
  rw [Bool.and_eq_false_iff]
  right
  rw [Bool.eq_false_iff]
  intro hh
  have := all_range.1 hh k hk
  rw [h] at this
  cases this
theorem props_yes {ps : List Pr} (h1 : ps.length ≤ 32) (h : ∀ i, i < ps.length → propOkB ps i = true) : propsB ps = true := by
  unfold propsB
  rw [decide_eq_true h1, Bool.true_and]
  exact all_range.2 h
theorem prop_name {ps : List Pr} {k : Nat} (hk : k < ps.length) (h : nameB ps[k].n.data.toList = false) : propOkB ps k = false := by
  rw [prop_some hk, h]; rfl
theorem prop_val {ps : List Pr} {k : Nat} (hk : k < ps.length) (h : ¬ ps[k].v.size ≤ 1024) : propOkB ps k = false := by
  rw [prop_some hk, decide_eq_false h]; simp
theorem prop_twin {ps : List Pr} {k j : Nat} (hk : k < ps.length) (hj : j < k) (h : ps[j].n = ps[k].n) : propOkB ps k = false := by
  rw [prop_some hk, Bool.and_eq_false_iff]
  right
  rw [Bool.eq_false_iff]
  intro hh
  exact (apart_iff (by omega) _).1 hh j (by omega) hj h
theorem prop_good {ps : List Pr} {k : Nat} (hk : k < ps.length) (h1 : nameB ps[k].n.data.toList = true) (h2 : ps[k].v.size ≤ 1024) (h3 : ∀ (j : Nat) (h : j < ps.length), j < k → ps[j].n ≠ ps[k].n) : propOkB ps k = true := by
  rw [prop_some hk, h1, decide_eq_true h2, (apart_iff (by omega) _).2 h3]
  rfl
end Go.Proofs.Ytndocngkganpdaa
