/- plain, both: contracts. -/
import Derived.Test.YtfipljhlponcoaaDoorLineLaw2
import Derived.Test.YtfipljhlponcoaaDoorPutLaw
import Derived.Test.YtfipljhlponcoaaDoorProg
import Derived.LoopTactic
set_option linter.unusedVariables false
namespace Go.Proofs.YtfipljhlponcoaaDoor
open Go.RowKit
theorem okC_yes {c : Nat} (h : okC c = true) : decide ((c : Int) < 33) = false ∧ decide (126 < (c : Int)) = false ∧ ((c : Int) == 34) = false ∧ ((c : Int) == 92) = false := by
  unfold okC at h
  simp at h
  simp
  omega
theorem okC_no {c : Nat} (h : okC c = false) : decide ((c : Int) < 33) = true ∨ (decide ((c : Int) < 33) = false ∧ decide (126 < (c : Int)) = true) ∨ (c = 34) ∨ (c = 92) := by
  have : ¬ (33 ≤ c ∧ c ≤ 126 ∧ c ≠ 34 ∧ c ≠ 92) := by
    rintro ⟨h1, h2, h3, h4⟩
    unfold okC at h
    simp [h1, h2, h3, h4] at h
  simp
  omega
theorem nl_at (s : ByteArray) (k : Nat) (h : k < s.size) : (nl s)[k]'(by rw [nl_len]; exact h) = s[k].toNat := by unfold nl; rw [List.getElem_map]; rfl
theorem nl_take_all (s : ByteArray) (k : Nat) (h : k < s.size) (p : Nat → Bool) (ha : ((nl s).take k).all p = true) (hp : p s[k].toNat = true) : ((nl s).take (k + 1)).all p = true := by
  rw [List.take_succ_eq_append_getElem (by rw [nl_len]; exact h), List.all_append, ha, nl_at s k h]
  simp [hp]
theorem nl_not_all (s : ByteArray) (k : Nat) (h : k < s.size) (p : Nat → Bool) (hp : p s[k].toNat = false) : (nl s).all p = false := by
  rw [List.all_eq_false]
  exact ⟨s[k].toNat, by rw [← nl_at s k h]; exact List.getElem_mem _, by simp [hp]⟩
theorem plain_no {s : ByteArray} (h : (nl s).all okC = false) : plainN (nl s) = false := by unfold plainN; rw [h]; rfl
theorem plain_nil {s : ByteArray} (h : s.size = 0) : plainN (nl s) = false := by
  have : nl s = [] := List.eq_nil_of_length_eq_zero (by rw [nl_len]; exact h)
  rw [this]; rfl
theorem plain_yes {s : ByteArray} (h : (nl s).all okC = true) (h0 : s.size ≠ 0) : plainN (nl s) = true := by
  unfold plainN
  rw [h]
  have : nl s ≠ [] := fun e => h0 (by rw [← nl_len, e]; rfl)
  simpa using this
theorem strn_nil {s : ByteArray} (h : s.size = 0) : s.toList = [] ∧ s.toList.isEmpty = true := by
  have he : s.toList = [] := by
    rw [ByteArray.toList_eq]; exact List.eq_nil_of_length_eq_zero h
  exact ⟨he, by rw [he]; rfl⟩
theorem strn_ne {s : ByteArray} (h : s.size ≠ 0) : ¬ s.toList = [] ∧ s.toList.isEmpty = false := by
  have he : ¬ s.toList = [] := by
    intro h'
    rw [ByteArray.toList_eq] at h'
    have : s.data.toList.length = 0 := by rw [h']; rfl
    exact h this
  exact ⟨he, by simpa using he⟩
set_option maxHeartbeats 4000000 in
theorem rplain_any (s : ByteArray) (w : World) (hs : s.size ≤ 16777216) : Calls Tryd.prog 50 #[.string s] w fun e w' => e = .returned (.bool (plainN (nl s))) ∧ w = w' := by
  have HZ := Lib.hid (strn_nil (s := s))
  have HN := Lib.hid (strn_ne (s := s))
  go_enter Tryd.func50, Tryd.ntmps50
  go_wp2_with fail
  go_loop [3] (fun i => ∃ k : Nat, k ≤ s.size ∧ i = .int .i64 k ∧ ((nl s).take k).all okC = true) (fun i => s.size - (intOf i).toNat)
  case atStart => exact ⟨0, by omega, rfl, rfl⟩
  case round =>
    obtain ⟨k, hk, rfl, hall⟩ := hrel
    have H := Lib.hid hall
    clear hall
    by_cases hlt : k < s.size
    · obtain ⟨c, hc⟩ : ∃ c : Nat, s[k].toNat = c := ⟨_, rfl⟩
      have HC := Lib.hid hc
      have hki : (k : Int) < (s.size : Int) := by omega
      rcases hch : okC c
      · have HF : Hid (okC s[k].toNat = false) := by rw [HC.out]; exact hch
        have hw := okC_no hch
        clear hch
        rcases hw with h1 | ⟨h1, h2⟩ | h1 | h1
        all_goals try subst h1
        all_goals go_wp2_with fail
        all_goals go_ret
        all_goals exact ⟨ret_bool (plain_no (nl_not_all s k hlt _ HF.out)).symm, rfl⟩
      · have HF : Hid (okC s[k].toNat = true) := by rw [HC.out]; exact hch
        obtain ⟨h1, h2, h3, h4⟩ := okC_yes hch
        clear hch
        go_wp2_with fail
        go_round
        case rel => exact ⟨k + 1, by omega, by go_num, nl_take_all s k hlt _ H.out HF.out⟩
        case measure => simp [intOf]; omega
    · obtain rfl : k = s.size := by omega
      have hki : ¬ (s.size : Int) < (s.size : Int) := by omega
      have h3 := H.out
      rw [List.take_of_length_le (by rw [nl_len]; omega)] at h3
      have H3 := Lib.hid h3
      clear h3 H
      by_cases h0 : s.size = 0
      · obtain ⟨e1, e2⟩ := HZ.out h0
        have H0 := Lib.hid h0
        clear h0
        go_wp2_with fail
        go_ret
        exact ⟨ret_bool (plain_nil H0.out).symm, rfl⟩
      · obtain ⟨e1, e2⟩ := HN.out h0
        have H0 := Lib.hid h0
        clear h0
        go_wp2_with fail
        go_ret
        exact ⟨ret_bool (plain_yes H3.out H0.out).symm, rfl⟩
set_option maxHeartbeats 4000000 in
theorem pplain_any (s : ByteArray) (w : World) (hs : s.size ≤ 16777216) : Calls Tryd.prog 47 #[.string s] w fun e w' => e = .returned (.bool (plainN (nl s))) ∧ Below w.heap.size w w' := by
  have HZ := Lib.hid (strn_nil (s := s))
  have HN := Lib.hid (strn_ne (s := s))
  obtain ⟨cap, W, hrun, hb, hW, hcell⟩ := bytes_conv (P := Tryd.prog) w 9 72 5 s Tryd.underlying9 Tryd.underlying72 Tryd.underlying5
  have Hc := Lib.hid hcell
  have Hb := Lib.hid hb
  clear hcell hb
  go_enter Tryd.func47, Tryd.ntmps47
  go_wp2_with fail
  go_loop [8] (fun i => ∃ k : Nat, k ≤ s.size ∧ i = .int .i64 k ∧ ((nl s).take k).all okC = true) (fun i => s.size - (intOf i).toNat)
  case atStart => exact ⟨0, by omega, rfl, rfl⟩
  case round =>
    obtain ⟨k, hk, rfl, hall⟩ := hrel
    have H := Lib.hid hall
    clear hall hrun
    by_cases hlt : k < s.size
    · have hcl := Hc.out k hlt
      obtain ⟨c, hc⟩ : ∃ c : Nat, s[k].toNat = c := ⟨_, rfl⟩
      rw [hc] at hcl
      have HC := Lib.hid hc
      clear hc
      have hki : (k : Int) < (s.size : Int) := by omega
      rcases hch : okC c
      · have HF : Hid (okC s[k].toNat = false) := by rw [HC.out]; exact hch
        have hw := okC_no hch
        clear hch
        rcases hw with h1 | ⟨h1, h2⟩ | h1 | h1
        all_goals try subst h1
        all_goals go_wp2_with fail
        all_goals go_ret
        all_goals exact ⟨ret_bool (plain_no (nl_not_all s k hlt _ HF.out)).symm, Hb.out⟩
      · have HF : Hid (okC s[k].toNat = true) := by rw [HC.out]; exact hch
        obtain ⟨h1, h2, h3, h4⟩ := okC_yes hch
        clear hch
        go_wp2_with fail
        go_round
        case rel => exact ⟨k + 1, by omega, by go_num, nl_take_all s k hlt _ H.out HF.out⟩
        case measure => simp [intOf]; omega
    · obtain rfl : k = s.size := by omega
      have hki : ¬ (s.size : Int) < (s.size : Int) := by omega
      have h3 := H.out
      rw [List.take_of_length_le (by rw [nl_len]; omega)] at h3
      have H3 := Lib.hid h3
      clear h3 H
      by_cases h0 : s.size = 0
      · obtain ⟨e1, e2⟩ := HZ.out h0
        have H0 := Lib.hid h0
        clear h0
        go_wp2_with fail
        go_ret
        exact ⟨ret_bool (plain_nil H0.out).symm, Hb.out⟩
      · obtain ⟨e1, e2⟩ := HN.out h0
        have H0 := Lib.hid h0
        clear h0
        go_wp2_with fail
        go_ret
        exact ⟨ret_bool (plain_yes H3.out H0.out).symm, Hb.out⟩
end Go.Proofs.YtfipljhlponcoaaDoor
