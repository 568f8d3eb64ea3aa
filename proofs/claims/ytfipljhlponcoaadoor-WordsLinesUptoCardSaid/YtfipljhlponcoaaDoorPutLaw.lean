/- What is put: plain law. -/
import Derived.Test.YtfipljhlponcoaaDoorShowLaw
import Derived.Lib.Strings
import Derived.Lib.Small
import Derived.Lib.AppendStr
set_option linter.unusedVariables false
namespace Go.Proofs.YtfipljhlponcoaaDoor
open Go.RowKit
/-- Bytes as a row's values. -/
def bV (l : List Nat) : List Value := l.map fun (b : Nat) => Value.int .u8 (b : Int)
theorem bV_len (l : List Nat) : (bV l).length = l.length := by simp [bV]
theorem bV_app (l l' : List Nat) : bV (l ++ l') = bV l ++ bV l' := by simp [bV]
theorem bV_one (l : List Nat) : ∀ u ∈ bV l, u.oneCell' = true := fun u hu => by
  obtain ⟨b, _, rfl⟩ := List.mem_map.1 hu
  rfl
theorem str_bV (s : ByteArray) : Lib.strCells s = bV (nl s) := by simp [Lib.strCells, bV, nl]
theorem nl_extract (s : ByteArray) (i j : Nat) : nl (s.extract i j) = ((nl s).drop i).take (j - i) := by
  unfold nl
  rw [← List.map_drop, ← List.map_take]
  congr 1
  simp [ByteArray.data_extract, Array.toList_extract, List.extract]
theorem enc_fffd : encN 65533 = [239, 191, 189] := by decide
theorem pre_fffd (s : ByteArray) (pos : Nat) : Lib.hasPrefix (s.extract pos s.size).data.toList [239, 191, 189] = decide (pcN ((nl s).drop pos) = some (65533, 3)) := by
  have he : nl (s.extract pos s.size) = (nl s).drop pos := by
    rw [nl_extract, List.take_of_length_le]
    rw [List.length_drop, nl_len]
    omega
  rw [← he]
  generalize s.extract pos s.size = t
  rw [Bool.eq_iff_iff, decide_eq_true_iff]
  unfold Lib.hasPrefix
  rw [List.isPrefixOf_iff_prefix]
  constructor
  · rintro ⟨u, hu⟩
    have : nl t = encN 65533 ++ u.map UInt8.toNat := by
      unfold nl
      rw [← hu, enc_fffd]
      simp
    rw [this, pc_enc _ (by unfold okR; omega), enc_fffd]
    rfl
  · intro h
    obtain ⟨_, h2, h3⟩ := pc_some (nl_lt t) h
    rw [enc_fffd] at h3
    have h4 : (t.data.toList.take 3).map UInt8.toNat = [239, 191, 189] := by rw [List.map_take]; exact h3
    have h5 : t.data.toList.take 3 = [239, 191, 189] := by
      have hi : ∀ a b : List UInt8, a.map UInt8.toNat = b.map UInt8.toNat → a = b := fun a b h => by
        exact (List.map_inj_right (fun x y hxy => UInt8.toNat_inj.1 hxy)).1 h
      exact hi _ [239, 191, 189] h4
    exact ⟨t.data.toList.drop 3, by rw [← h5]; exact List.take_append_drop 3 _⟩
theorem len_enc (r : Nat) (h : okR r) : Lib.runeLen (r : Int) = ((encN r).length : Int) := by
  unfold okR at h
  unfold Lib.runeLen encN
  repeat' split
  all_goals first | rfl | (exfalso; omega)
/-- What stands at a place, as the code finds it: a rune; the bytes of U+FFFD; a break. -/
theorem cut_cases (s : ByteArray) (pos : Nat) (h : pos < s.size) :
    (∃ r : Nat, okR r ∧ r ≠ 65533 ∧ (Utf8.decode s pos).1 = (r : Int) ∧ cutN ((nl s).drop pos) = ((r : Int), ((nl s).drop pos).take (encN r).length) ∧ Lib.runeLen r = ((encN r).length : Int) ∧ (Utf8.decode s pos).2 = (encN r).length ∧ pos + (encN r).length ≤ s.size ∧ ((nl s).drop pos).take (encN r).length = encN r) ∨
    ((Utf8.decode s pos).1 = (65533 : Int) ∧ Lib.hasPrefix (s.extract pos s.size).data.toList [239, 191, 189] = true ∧ cutN ((nl s).drop pos) = (65533, ((nl s).drop pos).take 3) ∧ (Utf8.decode s pos).2 = 3 ∧ pos + 3 ≤ s.size) ∨
    ((Utf8.decode s pos).1 = (65533 : Int) ∧ Lib.hasPrefix (s.extract pos s.size).data.toList [239, 191, 189] = false ∧ cutN ((nl s).drop pos) = (-1, ((nl s).drop pos).take 1) ∧ (Utf8.decode s pos).2 = 1) := by
  rw [dec_pc s pos h, pre_fffd]
  unfold cutN
  rcases hp : pcN ((nl s).drop pos) with _ | ⟨r, k⟩
  · right; right
    simp
  · obtain ⟨h1, h2, h3⟩ := pc_some (drop_lt (nl_lt s) pos) hp
    have h4 := congrArg List.length h3
    rw [← h2, List.length_take, List.length_drop, nl_len] at h4
    by_cases hr : r = 65533
    · subst hr
      have hk : k = 3 := by rw [h2, enc_fffd]; rfl
      subst hk
      right; left
      simp
      omega
    · left
      exact ⟨r, h1, hr, by simp, by simp [h2], len_enc r h1, by simp [h2], by omega, by rw [← h2]; exact h3⟩
end Go.Proofs.YtfipljhlponcoaaDoor
