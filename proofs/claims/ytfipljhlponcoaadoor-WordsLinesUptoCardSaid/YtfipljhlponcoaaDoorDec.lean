/- What the model takes of a text at a place: plain law. -/
import Derived.Test.YtfipljhlponcoaaDoorUtf
set_option linter.unusedVariables false
namespace Go.Proofs.YtfipljhlponcoaaDoor
open Go.RowKit
def nl (s : ByteArray) : List Nat := s.data.toList.map UInt8.toNat
theorem nl_len (s : ByteArray) : (nl s).length = s.size := by simp [nl]
theorem nl_lt (s : ByteArray) : ∀ x ∈ nl s, x < 256 := fun x hx => by
  obtain ⟨b, _, rfl⟩ := List.mem_map.1 hx
  exact b.toNat_lt
theorem nl_get (s : ByteArray) {i : Nat} (h : i < s.size) : (nl s)[i]'(by rw [nl_len]; exact h) = (s.get! i).toNat := by
  have : s.get! i = s[i]'h := by
    show s.data[i]! = _
    rw [getElem!_pos s.data i h]
    rfl
  rw [this]
  simp [nl]
  rfl
theorem valid_ok (c : Nat) : Utf8.valid (c : Int) = decide (okR c) := by
  rw [Bool.eq_iff_iff, decide_eq_true_iff]
  unfold Utf8.valid okR
  simp only [Bool.or_eq_true, Bool.and_eq_true, decide_eq_true_eq]
  omega
/-- The rune that the model takes of a text at a place. -/
theorem dec_pc (s : ByteArray) (pos : Nat) (h : pos < s.size) : Utf8.decode s pos = (pcN ((nl s).drop pos)).getD (65533, 1) := by
  have hl : ((nl s).drop pos).length = s.size - pos := by rw [List.length_drop, nl_len]
  have hg : ∀ k (hk : k < ((nl s).drop pos).length), (s.get! (pos + k)).toNat = ((nl s).drop pos)[k] := fun k hk => by
    rw [← nl_get s (by omega)]
    simp
  have hb : ∀ k, (decide (pos + k < s.size)) = decide (k < ((nl s).drop pos).length) := fun k => by
    rw [hl, Bool.eq_iff_iff]; simp; omega
  unfold Utf8.decode
  simp only [hb, valid_ok, Utf8.runeError]
  generalize (nl s).drop pos = l at *
  match l, hl with
  | [], hl => simp at hl; omega
  | [b0], _ =>
    have g0 := hg 0 (by simp)
    simp only [List.getElem_cons_zero] at g0
    simp only [g0, pcN]
    by_cases h1 : b0 < 128
    · simp [h1]
    · simp [h1]
  | [b0, b1], _ =>
    have g0 := hg 0 (by simp)
    have g1 := hg 1 (by simp)
    simp only [List.getElem_cons_zero, List.getElem_cons_succ] at g0 g1
    simp only [g0, g1, pcN]
    have e2 : (b0 / 32 == 6 && b1 / 64 == 2) = decide (b0 / 32 = 6 ∧ b1 / 64 = 2) := by rw [Bool.eq_iff_iff]; simp
    simp only [List.length_cons, List.length_nil, e2, Nat.reduceAdd, Nat.reduceLT, decide_true, decide_false, Bool.true_and, Bool.false_and, Bool.and_false, decide_eq_true_eq, Bool.false_eq_true, if_false]
    repeat' split
    all_goals first | rfl | (exfalso; omega) | simp_all
  | [b0, b1, b2], _ =>
    have g0 := hg 0 (by simp)
    have g1 := hg 1 (by simp)
    have g2 := hg 2 (by simp)
    simp only [List.getElem_cons_zero, List.getElem_cons_succ] at g0 g1 g2
    simp only [g0, g1, g2, pcN]
    have e2 : (b0 / 32 == 6 && b1 / 64 == 2) = decide (b0 / 32 = 6 ∧ b1 / 64 = 2) := by rw [Bool.eq_iff_iff]; simp
    have e3 : (b0 / 16 == 14 && b1 / 64 == 2 && b2 / 64 == 2) = decide (b0 / 16 = 14 ∧ b1 / 64 = 2 ∧ b2 / 64 = 2) := by rw [Bool.eq_iff_iff]; simp [and_assoc]
    simp only [List.length_cons, List.length_nil, e2, e3, Nat.reduceAdd, Nat.reduceLT, decide_true, decide_false, Bool.true_and, Bool.false_and, Bool.and_false, decide_eq_true_eq, Bool.false_eq_true, if_false, Bool.and_eq_true]
    repeat' split
    all_goals first | rfl | (exfalso; omega) | simp_all
  | b0 :: b1 :: b2 :: b3 :: t, _ =>
    have g0 := hg 0 (by simp)
    have g1 := hg 1 (by simp)
    have g2 := hg 2 (by simp)
    have g3 := hg 3 (by simp)
    simp only [List.getElem_cons_zero, List.getElem_cons_succ] at g0 g1 g2 g3
    simp only [g0, g1, g2, g3, pcN]
    have e2 : (b0 / 32 == 6 && b1 / 64 == 2) = decide (b0 / 32 = 6 ∧ b1 / 64 = 2) := by rw [Bool.eq_iff_iff]; simp
    have e3 : (b0 / 16 == 14 && b1 / 64 == 2 && b2 / 64 == 2) = decide (b0 / 16 = 14 ∧ b1 / 64 = 2 ∧ b2 / 64 = 2) := by rw [Bool.eq_iff_iff]; simp [and_assoc]
    have e4 : (b0 / 8 == 30 && b1 / 64 == 2 && b2 / 64 == 2 && b3 / 64 == 2) = decide (b0 / 8 = 30 ∧ b1 / 64 = 2 ∧ b2 / 64 = 2 ∧ b3 / 64 = 2) := by rw [Bool.eq_iff_iff]; simp [and_assoc]
    have l0 : ∀ k, k < 4 → decide (k < (b0 :: b1 :: b2 :: b3 :: t).length) = true := fun k hk => by simp; omega
    simp only [l0 1 (by omega), l0 2 (by omega), l0 3 (by omega), e2, e3, e4, Bool.true_and, decide_eq_true_eq, Bool.and_eq_true]
    repeat' split
    all_goals first | rfl | (exfalso; omega) | simp_all
end Go.Proofs.YtfipljhlponcoaaDoor
