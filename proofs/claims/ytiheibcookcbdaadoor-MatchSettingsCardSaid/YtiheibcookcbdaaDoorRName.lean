/- The document's Name: the contract. -/
import Derived.Test.YtiheibcookcbdaaDoorCName
set_option linter.unusedVariables false
namespace Go.Proofs.YtiheibcookcbdaaDoor
open Go.RowKit
theorem ch_ways (c : Int) (h : chB c = true) : (decide (97 ≤ c) = true ∧ decide (c ≤ 122) = true) ∨ (decide (97 ≤ c) = false ∧ decide (48 ≤ c) = true ∧ decide (c ≤ 57) = true) ∨ c = 44 ∨ c = 46 ∨ c = 95 ∨ c = 43 ∨ c = 45 ∨ c = 64 ∨ c = 35 ∨ c = 63 := by
  simp [chB] at h ⊢; omega
theorem ch_no (c : Int) (h : chB c = false) : (decide (97 ≤ c) = false ∧ decide (48 ≤ c) = false ∧ (c == 44) = false ∧ (c == 46) = false ∧ (c == 95) = false ∧ (c == 43) = false ∧ (c == 45) = false ∧ (c == 64) = false ∧ (c == 35) = false ∧ (c == 63) = false) ∨ (decide (97 ≤ c) = false ∧ decide (48 ≤ c) = true ∧ decide (c ≤ 57) = false ∧ (c == 44) = false ∧ (c == 46) = false ∧ (c == 95) = false ∧ (c == 43) = false ∧ (c == 45) = false ∧ (c == 64) = false ∧ (c == 35) = false ∧ (c == 63) = false) ∨ (decide (97 ≤ c) = true ∧ decide (c ≤ 122) = false ∧ decide (48 ≤ c) = true ∧ decide (c ≤ 57) = false ∧ (c == 44) = false ∧ (c == 46) = false ∧ (c == 95) = false ∧ (c == 43) = false ∧ (c == 45) = false ∧ (c == 64) = false ∧ (c == 35) = false ∧ (c == 63) = false) := by
  simp [chB] at h ⊢; omega
theorem take_all (s : ByteArray) (k : Nat) (h : k < s.size) (p : UInt8 → Bool) (ha : (s.data.toList.take k).all p = true) (hp : p s[k] = true) : (s.data.toList.take (k + 1)).all p = true := by
  rw [List.take_succ_eq_append_getElem (by simpa using h), List.all_append, ha]
  simp
  exact hp
theorem not_all (s : ByteArray) (k : Nat) (h : k < s.size) (p : UInt8 → Bool) (hp : p s[k] = false) : s.data.toList.all p = false := by
  rw [List.all_eq_false]
  exact ⟨s[k], by show s.data[k] ∈ _; simp, by simp [hp]⟩

set_option maxHeartbeats 4000000 in
theorem rname_any (s : ByteArray) (w : World) (hs : s.size ≤ maxLen) : Calls Tryd.prog 34 #[.string s] w fun e w' => e = .returned (.bool (nameB s.data.toList)) ∧ w = w' := by
  unfold maxLen at hs
  by_cases h1 : s.size < 1
  · go_enter Tryd.func34, Tryd.ntmps34
    go_wp2
    all_goals go_ret
    exact ⟨ret_bool (by unfold nameB; rw [size_data]; simp; omega), rfl⟩
  · by_cases h2 : 31 < s.size
    · go_enter Tryd.func34, Tryd.ntmps34
      go_wp2
      all_goals go_ret
      exact ⟨ret_bool (by unfold nameB; rw [size_data]; simp; omega), rfl⟩
    · go_enter Tryd.func34, Tryd.ntmps34
      go_wp2
      go_loop [3] (fun i => ∃ k : Nat, k ≤ s.size ∧ i = .int .i64 k ∧ (s.data.toList.take k).all (fun c => chB c.toNat) = true) (fun i => s.size - (intOf i).toNat)
      case atStart => exact ⟨0, by omega, rfl, rfl⟩
      case round =>
        obtain ⟨k, hk, rfl, hall⟩ := hrel
        have H := Lib.hid hall
        clear hall
        by_cases hlt : k < s.size
        · obtain ⟨c, hc⟩ : ∃ c : Int, (s[k].toNat : Int) = c := ⟨_, rfl⟩
          rcases hch : chB c
          · have HF : Hid (chB (s[k].toNat : Int) = false) := by rw [hc]; exact hch
            have hw := ch_no _ hch
            clear hch
            rcases hw with ⟨_, _, _, _, _, _, _, _, _, _⟩ | ⟨_, _, _, _, _, _, _, _, _, _, _⟩ | ⟨_, _, _, _, _, _, _, _, _, _, _, _⟩
            all_goals go_wp2
            all_goals go_ret
            all_goals exact ⟨ret_bool (by unfold nameB; rw [not_all s k hlt _ HF.out]; simp), rfl⟩
          · have HF : Hid (chB (s[k].toNat : Int) = true) := by rw [hc]; exact hch
            have hw := ch_ways _ hch
            clear hch
            rcases hw with ⟨_, _⟩ | ⟨_, _, _⟩ | rfl | rfl | rfl | rfl | rfl | rfl | rfl | rfl
            all_goals go_wp2
            all_goals go_round
            all_goals first
              | (case rel => exact ⟨k + 1, by omega, by go_num, take_all s k hlt _ H.out HF.out⟩)
              | (case measure => simp [intOf]; omega)
              | skip
        · go_wp2
          go_ret
          obtain rfl : k = s.size := by omega
          have h3 := H.out
          rw [List.take_of_length_le (by rw [size_data]; omega)] at h3
          exact ⟨ret_bool (by unfold nameB; rw [h3, size_data]; simp; omega), rfl⟩
end Go.Proofs.YtiheibcookcbdaaDoor
