import Derived.Test.YtbahclnpgdejlaaRestA
import Derived.Laws.IdiomCopy
set_option linter.unusedVariables false
namespace Go.Proofs.Ytbahclnpgdejlaa
open Go.RowKit
/-- Cells laid over a list from place o on. -/
def overlay : List Value → Nat → List Value → List Value
  | xs, _, [] => xs
  | xs, o, v :: vs => overlay (xs.set o v) (o + 1) vs
theorem heap_setCells (g : Nat) (e : TypeId) : ∀ (vs : List Value) (o : Nat) (w : World) (cur : Array Value), w.heap[g]? = some (.cells cur e (0, 0)) →
    ∃ cur', (w.setCells g o vs).heap[g]? = some (.cells cur' e (0, 0)) ∧ cur'.toList = overlay cur.toList o vs ∧ cur'.size = cur.size
  | [], o, w, cur, h => ⟨cur, h, rfl, rfl⟩
  | v :: vs, o, w, cur, h => by
    have h1 := heap_setCell_same w g o cur e v h
    obtain ⟨cur', h2, h3, h4⟩ := heap_setCells g e vs (o + 1) (w.setCell ⟨g, o, none⟩ v) _ h1
    exact ⟨cur', h2, by rw [h3, Array.toList_setIfInBounds]; rfl, by simpa using h4⟩
theorem overlay_len : ∀ (vs : List Value) (o : Nat) (xs : List Value), (overlay xs o vs).length = xs.length
  | [], _, _ => rfl
  | v :: vs, o, xs => by unfold overlay; rw [overlay_len vs]; simp
theorem overlay_get : ∀ (vs : List Value) (o : Nat) (xs : List Value) (j : Nat), o + vs.length ≤ xs.length → (overlay xs o vs)[j]? = if o ≤ j ∧ j < o + vs.length then vs[j - o]? else xs[j]?
  | [], o, xs, j, h => by unfold overlay; rw [if_neg (by intro h; simp at h; omega)]
  | v :: vs, o, xs, j, h => by
    unfold overlay
    simp only [List.length_cons] at h ⊢
    rw [overlay_get vs (o + 1) (xs.set o v) j (by simp; omega)]
    by_cases h1 : o + 1 ≤ j ∧ j < o + 1 + vs.length
    · rw [if_pos h1, if_pos (by omega), show j - o = (j - (o + 1)) + 1 by omega]; simp
    · rw [if_neg h1]
      by_cases h2 : j = o
      · subst h2
        rw [if_pos (by omega), List.getElem?_set_self (by omega)]
        simp
      · rw [if_neg (by omega), List.getElem?_set_ne (by omega)]
/-- The k-th taken out of a row of the call's own, in place. -/
theorem own_delete {w : World} {base g cap h k : Nat} {xs : List Value} (ho : w.ownsRow base 3 1 (.slice (some ⟨g, 0, none⟩) h cap) h xs) (hk : k < h) :
    (w.setCells g k (xs.drop (k + 1))).ownsRow base 3 1 (.slice (some ⟨g, 0, none⟩) (h - 1) cap) (h - 1) (xs.take k ++ xs.drop (k + 1)) := by
  have hl : xs.length = h := by have := ho.1; omega
  rcases ho.2 with ⟨_, h0⟩ | ⟨g', cap', cur, hv, hb, hh, hc1, hc2, hc3, htake⟩
  · omega
  · injection hv with hA _ hcap
    injection hA with hA
    injection hA with hA
    subst hA hcap
    obtain ⟨cur', h1, h2, h3⟩ := heap_setCells g 3 (xs.drop (k + 1)) k w cur hh
    have hcl : cur.toList.length = cap * 1 := by simpa using hc3
    refine ⟨by simp; omega, .inr ⟨g, cap, cur', rfl, hb, h1, by omega, hc2, by rw [h3]; exact hc3, ?_⟩⟩
    rw [h2]
    apply List.ext_getElem?
    intro j
    have hx : ∀ i, i < h → cur.toList[i]? = xs[i]? := fun i hi => by
      rw [← htake, List.getElem?_take_of_lt (by omega)]
    by_cases hj : j < h - 1
    · rw [List.getElem?_take_of_lt (by omega), overlay_get _ _ _ _ (by simp; omega)]
      by_cases hjk : j < k
      · rw [if_neg (by omega), List.getElem?_append_left (by simp; omega), List.getElem?_take_of_lt hjk, hx j (by omega)]
      · rw [if_pos (by simp; omega), List.getElem?_append_right (by simp; omega)]
        congr 1
        simp; omega
    · rw [List.getElem?_eq_none (by simp; omega), List.getElem?_eq_none (by simp; omega)]
end Go.Proofs.Ytbahclnpgdejlaa
