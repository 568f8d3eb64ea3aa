/- Reading within quotes: plain law at a place of a text. -/
import Derived.Test.YtfipljhlponcoaaDoorLinePl
set_option linter.unusedVariables false
namespace Go.Proofs.YtfipljhlponcoaaDoor
open Go.RowKit
theorem nl_getD (s : ByteArray) (k j : Nat) (h : k + j < s.size) : ((nl s).drop k).getD j 0 = (s[k + j]'h).toNat := by
  rw [List.getD_eq_getElem?_getD, List.getElem?_drop, List.getElem?_eq_getElem (by rw [nl_len]; exact h), nl_at s (k + j) h]
  rfl
theorem nl_dlen (s : ByteArray) (k : Nat) : ((nl s).drop k).length = s.size - k := by rw [List.length_drop, nl_len]
theorem dropn_ne {s : ByteArray} {k : Nat} (h : k < s.size) : (nl s).drop k ≠ [] := fun e => by
  have := nl_dlen s k
  rw [e] at this
  simp at this
  omega
theorem rq_adv {s : ByteArray} {k m : Nat} {out : List Nat} (h : k < s.size) (h34 : s[k].toNat ≠ 34) (hr : rst ((nl s).drop k) = (out, m)) :
    rq ((nl s).drop k) = (out ++ (rq ((nl s).drop (k + m))).1, m + (rq ((nl s).drop (k + m))).2) := by
  have h0 := nl_getD s k 0 h
  rw [rq_step (dropn_ne h) (by rw [h0]; exact h34), hr]
  simp only [List.drop_drop]
theorem rq_fin {s : ByteArray} {k : Nat} (h : ¬ k < s.size ∨ ∃ h : k < s.size, s[k].toNat = 34) : rq ((nl s).drop k) = ([], 0) := by
  rcases h with h | ⟨h, h'⟩
  · exact rq_end (.inl (List.drop_of_length_le (by rw [nl_len]; omega)))
  · exact rq_end (.inr (by rw [nl_getD s k 0 h]; exact h'))
theorem rst_one {s : ByteArray} {k : Nat} (h : k < s.size) (h92 : s[k].toNat ≠ 92) : rst ((nl s).drop k) = ([s[k].toNat], 1) := by
  have h0 := nl_getD s k 0 h
  unfold rst
  rw [h0]
  exact if_pos h92
theorem rst_four {s : ByteArray} {k : Nat} (h : k + 3 < s.size) (h92 : s[k].toNat = 92) (h1 : s[k + 1].toNat = 120) (h2 : 0 ≤ hxV s[k + 2].toNat) (h3 : 0 ≤ hxV s[k + 3].toNat) :
    rst ((nl s).drop k) = ([(16 * hxV s[k + 2].toNat + hxV s[k + 3].toNat).toNat], 4) := by
  unfold rst
  rw [nl_getD s k 0 (by omega), nl_getD s k 1 (by omega), nl_getD s k 2 (by omega), nl_getD s k 3 h, nl_dlen]
  rw [if_neg (by simpa using h92), if_pos ⟨by omega, h1, h2, h3⟩]
theorem rst_two {s : ByteArray} {k : Nat} (h : k + 1 < s.size) (h92 : s[k].toNat = 92) (hn : ¬ ∃ h : k + 3 < s.size, s[k + 1].toNat = 120 ∧ 0 ≤ hxV s[k + 2].toNat ∧ 0 ≤ hxV s[k + 3].toNat) :
    rst ((nl s).drop k) = ([s[k + 1].toNat], 2) := by
  unfold rst
  rw [nl_dlen, if_neg (by rw [nl_getD s k 0 (by omega)]; simpa using h92), if_neg, if_pos (by omega), nl_getD s k 1 h]
  rintro ⟨h4, h5, h6, h7⟩
  have h3 : k + 3 < s.size := by omega
  rw [nl_getD s k 1 h] at h5
  rw [nl_getD s k 2 (by omega)] at h6
  rw [nl_getD s k 3 h3] at h7
  exact hn ⟨h3, h5, h6, h7⟩
theorem rst_zero {s : ByteArray} {k : Nat} (h : k < s.size) (h' : ¬ k + 1 < s.size) (h92 : s[k].toNat = 92) : rst ((nl s).drop k) = ([], 1) := by
  unfold rst
  rw [nl_dlen, if_neg (by rw [nl_getD s k 0 (by omega)]; simpa using h92), if_neg (by omega), if_neg (by omega)]
theorem hxV_le (c : Nat) : -1 ≤ hxV c ∧ hxV c ≤ 15 := by
  unfold hxV
  repeat' split <;> omega
theorem rqF_lt : ∀ (f : Nat) (l : List Nat), (∀ x ∈ l, x < 256) → ∀ x ∈ (rqF f l).1, x < 256
  | 0, l, _, x, hx => by simp [rqF] at hx
  | f + 1, l, hl, x, hx => by
    unfold rqF at hx
    split at hx
    · cases hx
    rcases List.mem_append.1 hx with hx | hx
    · have hg := getD_lt hl
      unfold rst at hx
      split at hx
      · obtain rfl : x = _ := List.mem_singleton.1 hx
        exact hg 0
      split at hx
      · obtain rfl : x = _ := List.mem_singleton.1 hx
        have a1 := (hxV_le (l.getD 2 0)).2
        have a2 := (hxV_le (l.getD 3 0)).2
        omega
      split at hx
      · obtain rfl : x = _ := List.mem_singleton.1 hx
        exact hg 1
      · cases hx
    · exact rqF_lt f _ (drop_lt hl _) x hx
theorem rq_lt {l : List Nat} (hl : ∀ x ∈ l, x < 256) : ∀ x ∈ (rq l).1, x < 256 := rqF_lt _ l hl
/-- The loop's state within quotes: what was read so far and what is still to come. -/
def RQ (s : ByteArray) (W : List Nat) (N k : Nat) (l : List Nat) : Prop := l ++ (rq ((nl s).drop k)).1 = W ∧ k + (rq ((nl s).drop k)).2 = N ∧ l.length ≤ k
theorem RQ.adv {s : ByteArray} {W : List Nat} {N k m : Nat} {l out : List Nat} (h : RQ s W N k l) (hk : k < s.size) (h34 : s[k].toNat ≠ 34) (hr : rst ((nl s).drop k) = (out, m)) : RQ s W N (k + m) (l ++ out) := by
  obtain ⟨h1, h2, h3⟩ := h
  rw [rq_adv hk h34 hr] at h1 h2
  have := (rst_pos ((nl s).drop k)).2
  rw [hr] at this
  refine ⟨by rw [List.append_assoc]; exact h1, by simp only at h2; omega, by simp at this ⊢; omega⟩
theorem RQ.fin {s : ByteArray} {W : List Nat} {N k : Nat} {l : List Nat} (h : RQ s W N k l) (hf : ¬ k < s.size ∨ ∃ h : k < s.size, s[k].toNat = 34) : l = W ∧ k = N := by
  obtain ⟨h1, h2, h3⟩ := h
  rw [rq_fin hf] at h1 h2
  exact ⟨by simpa using h1, by simpa using h2⟩
theorem rword_q {s : ByteArray} (h : 0 < s.size) (h' : s[0].toNat = 34) : rword (nl s) = ((rq ((nl s).drop 1)).1, min (2 + (rq ((nl s).drop 1)).2) s.size) := by
  have h0 := nl_getD s 0 0 h
  rw [List.drop_zero] at h0
  unfold rword
  rw [if_neg, nl_len]
  rintro (h1 | h1)
  · have := nl_len s
    rw [h1] at this
    simp at this
    omega
  · exact h1 (by rw [h0]; exact h')
theorem rword_p {s : ByteArray} (h : ∀ h : 0 < s.size, s[0].toNat ≠ 34) : rword (nl s) = ((nl s).take (spN (nl s)), spN (nl s)) := by
  unfold rword
  rw [if_pos]
  rcases Nat.eq_zero_or_pos s.size with h0 | h0
  · left
    exact List.eq_nil_of_length_eq_zero (by rw [nl_len]; exact h0)
  · right
    have h1 := nl_getD s 0 0 h0
    rw [List.drop_zero] at h1
    rw [h1]
    exact h h0
theorem sp_at {s : ByteArray} {k : Nat} (hk : k ≤ s.size) (ha : ((nl s).take k).all (fun c => c != 32) = true) (hf : ¬ k < s.size ∨ ∃ h : k < s.size, s[k].toNat = 32) : spN (nl s) = k := by
  have h := take_sp ((nl s).take k) ((nl s).drop k) (fun c hc => by simpa using List.all_eq_true.1 ha c hc) (by
    rcases hf with h | ⟨h, h'⟩
    · exact .inl (List.drop_of_length_le (by rw [nl_len]; omega))
    · exact .inr (by rw [nl_getD s k 0 h]; exact h'))
  rw [List.take_append_drop] at h
  rw [h, List.length_take, nl_len]
  omega
end Go.Proofs.YtfipljhlponcoaaDoor
