/- plain, both: contracts. ref01.digit: the contract. Reading within quotes: plain law at a place of a text. -/
import Derived.Test.YtfipljhlponcoaaDoorLineLaw2
import Derived.Test.YtfipljhlponcoaaDoorPutMem
import Derived.Test.YtfipljhlponcoaaDoorProg
import Derived.LoopTactic
set_option linter.unusedVariables false
namespace Go.Proofs.YtfipljhlponcoaaDoor
open Go.RowKit
theorem okC_yes {c : Nat} (h : okC c = true) : decide ((c : Int) < 33) = false ∧ decide (126 < (c : Int)) = false ∧ ((c : Int) == 34) = false ∧ ((c : Int) == 92) = false := by
  unfold okC at h
  simp at h
  simp
  omega
theorem okC_no {c : Nat} (h : okC c = false) : decide ((c : Int) < 33) = true ∨ (decide ((c : Int) < 33) = false ∧ decide (126 < (c : Int)) = true) ∨ (c = 34) ∨ (c = 92) := by
  have : ¬ (33 ≤ c ∧ c ≤ 126 ∧ c ≠ 34 ∧ c ≠ 92) := by
    rintro ⟨h1, h2, h3, h4⟩
    unfold okC at h
    simp [h1, h2, h3, h4] at h
  simp
  omega
theorem nl_at (s : ByteArray) (k : Nat) (h : k < s.size) : (nl s)[k]'(by rw [nl_len]; exact h) = s[k].toNat := by unfold nl; rw [List.getElem_map]; rfl
theorem nl_take_all (s : ByteArray) (k : Nat) (h : k < s.size) (p : Nat → Bool) (ha : ((nl s).take k).all p = true) (hp : p s[k].toNat = true) : ((nl s).take (k + 1)).all p = true := by
  rw [List.take_succ_eq_append_getElem (by rw [nl_len]; exact h), List.all_append, ha, nl_at s k h]
  simp [hp]
theorem nl_not_all (s : ByteArray) (k : Nat) (h : k < s.size) (p : Nat → Bool) (hp : p s[k].toNat = false) : (nl s).all p = false := by
  rw [List.all_eq_false]
  exact ⟨s[k].toNat, by rw [← nl_at s k h]; exact List.getElem_mem _, by simp [hp]⟩
theorem plain_no {s : ByteArray} (h : (nl s).all okC = false) : plainN (nl s) = false := by unfold plainN; rw [h]; rfl
theorem plain_nil {s : ByteArray} (h : s.size = 0) : plainN (nl s) = false := by
  have : nl s = [] := List.eq_nil_of_length_eq_zero (by rw [nl_len]; exact h)
  rw [this]; rfl
theorem plain_yes {s : ByteArray} (h : (nl s).all okC = true) (h0 : s.size ≠ 0) : plainN (nl s) = true := by
  unfold plainN
  rw [h]
  have : nl s ≠ [] := fun e => h0 (by rw [← nl_len, e]; rfl)
  simpa using this
theorem strn_nil {s : ByteArray} (h : s.size = 0) : s.toList = [] ∧ s.toList.isEmpty = true := by
  have he : s.toList = [] := by
    rw [ByteArray.toList_eq]; exact List.eq_nil_of_length_eq_zero h
  exact ⟨he, by rw [he]; rfl⟩
theorem strn_ne {s : ByteArray} (h : s.size ≠ 0) : ¬ s.toList = [] ∧ s.toList.isEmpty = false := by
  have he : ¬ s.toList = [] := by
    intro h'
    rw [ByteArray.toList_eq] at h'
    have : s.data.toList.length = 0 := by rw [h']; rfl
    exact h this
  exact ⟨he, by simpa using he⟩
set_option maxHeartbeats 4000000 in
theorem rplain_any (s : ByteArray) (w : World) (hs : s.size ≤ 16777216) : Calls Tryd.prog 50 #[.string s] w fun e w' => e = .returned (.bool (plainN (nl s))) ∧ w = w' := by
  have HZ := Lib.hid (strn_nil (s := s))
  have HN := Lib.hid (strn_ne (s := s))
  go_enter Tryd.func50, Tryd.ntmps50
  go_wp2_with fail
  go_loop [3] (fun i => ∃ k : Nat, k ≤ s.size ∧ i = .int .i64 k ∧ ((nl s).take k).all okC = true) (fun i => s.size - (intOf i).toNat)
  case atStart => exact ⟨0, by omega, rfl, rfl⟩
  case round =>
    obtain ⟨k, hk, rfl, hall⟩ := hrel
    have H := Lib.hid hall
    clear hall
    by_cases hlt : k < s.size
    · obtain ⟨c, hc⟩ : ∃ c : Nat, s[k].toNat = c := ⟨_, rfl⟩
      have HC := Lib.hid hc
      have hki : (k : Int) < (s.size : Int) := by omega
      rcases hch : okC c
      · have HF : Hid (okC s[k].toNat = false) := by rw [HC.out]; exact hch
        have hw := okC_no hch
        clear hch
        rcases hw with h1 | ⟨h1, h2⟩ | h1 | h1
        all_goals try subst h1
        all_goals go_wp2_with fail
        all_goals go_ret
        all_goals exact ⟨ret_bool (plain_no (nl_not_all s k hlt _ HF.out)).symm, rfl⟩
      · have HF : Hid (okC s[k].toNat = true) := by rw [HC.out]; exact hch
        obtain ⟨h1, h2, h3, h4⟩ := okC_yes hch
        clear hch
        go_wp2_with fail
        go_round
        case rel => exact ⟨k + 1, by omega, by go_num, nl_take_all s k hlt _ H.out HF.out⟩
        case measure => simp [intOf]; omega
    · obtain rfl : k = s.size := by omega
      have hki : ¬ (s.size : Int) < (s.size : Int) := by omega
      have h3 := H.out
      rw [List.take_of_length_le (by rw [nl_len]; omega)] at h3
      have H3 := Lib.hid h3
      clear h3 H
      by_cases h0 : s.size = 0
      · obtain ⟨e1, e2⟩ := HZ.out h0
        have H0 := Lib.hid h0
        clear h0
        go_wp2_with fail
        go_ret
        exact ⟨ret_bool (plain_nil H0.out).symm, rfl⟩
      · obtain ⟨e1, e2⟩ := HN.out h0
        have H0 := Lib.hid h0
        clear h0
        go_wp2_with fail
        go_ret
        exact ⟨ret_bool (plain_yes H3.out H0.out).symm, rfl⟩
set_option maxHeartbeats 4000000 in
theorem pplain_any (s : ByteArray) (w : World) (hs : s.size ≤ 16777216) : Calls Tryd.prog 47 #[.string s] w fun e w' => e = .returned (.bool (plainN (nl s))) ∧ Below w.heap.size w w' := by
  have HZ := Lib.hid (strn_nil (s := s))
  have HN := Lib.hid (strn_ne (s := s))
  obtain ⟨cap, W, hrun, hb, hW, hcell⟩ := bytes_conv (P := Tryd.prog) w 9 72 5 s Tryd.underlying9 Tryd.underlying72 Tryd.underlying5
  have Hc := Lib.hid hcell
  have Hb := Lib.hid hb
  clear hcell hb
  go_enter Tryd.func47, Tryd.ntmps47
  go_wp2_with fail
  go_loop [8] (fun i => ∃ k : Nat, k ≤ s.size ∧ i = .int .i64 k ∧ ((nl s).take k).all okC = true) (fun i => s.size - (intOf i).toNat)
  case atStart => exact ⟨0, by omega, rfl, rfl⟩
  case round =>
    obtain ⟨k, hk, rfl, hall⟩ := hrel
    have H := Lib.hid hall
    clear hall hrun
    by_cases hlt : k < s.size
    · have hcl := Hc.out k hlt
      obtain ⟨c, hc⟩ : ∃ c : Nat, s[k].toNat = c := ⟨_, rfl⟩
      rw [hc] at hcl
      have HC := Lib.hid hc
      clear hc
      have hki : (k : Int) < (s.size : Int) := by omega
      rcases hch : okC c
      · have HF : Hid (okC s[k].toNat = false) := by rw [HC.out]; exact hch
        have hw := okC_no hch
        clear hch
        rcases hw with h1 | ⟨h1, h2⟩ | h1 | h1
        all_goals try subst h1
        all_goals go_wp2_with fail
        all_goals go_ret
        all_goals exact ⟨ret_bool (plain_no (nl_not_all s k hlt _ HF.out)).symm, Hb.out⟩
      · have HF : Hid (okC s[k].toNat = true) := by rw [HC.out]; exact hch
        obtain ⟨h1, h2, h3, h4⟩ := okC_yes hch
        clear hch
        go_wp2_with fail
        go_round
        case rel => exact ⟨k + 1, by omega, by go_num, nl_take_all s k hlt _ H.out HF.out⟩
        case measure => simp [intOf]; omega
    · obtain rfl : k = s.size := by omega
      have hki : ¬ (s.size : Int) < (s.size : Int) := by omega
      have h3 := H.out
      rw [List.take_of_length_le (by rw [nl_len]; omega)] at h3
      have H3 := Lib.hid h3
      clear h3 H
      by_cases h0 : s.size = 0
      · obtain ⟨e1, e2⟩ := HZ.out h0
        have H0 := Lib.hid h0
        clear h0
        go_wp2_with fail
        go_ret
        exact ⟨ret_bool (plain_nil H0.out).symm, Hb.out⟩
      · obtain ⟨e1, e2⟩ := HN.out h0
        have H0 := Lib.hid h0
        clear h0
        go_wp2_with fail
        go_ret
        exact ⟨ret_bool (plain_yes H3.out H0.out).symm, Hb.out⟩
end Go.Proofs.YtfipljhlponcoaaDoor

set_option linter.unusedVariables false
namespace Go.Proofs.YtfipljhlponcoaaDoor
open Go.RowKit
theorem digS_at (k : Nat) (h : k < 16) : ((⟨#[48, 49, 50, 51, 52, 53, 54, 55, 56, 57, 97, 98, 99, 100, 101, 102]⟩ : ByteArray)[k]'h).toNat = hexd k := by
  have : ∀ k : Fin 16, ((⟨#[48, 49, 50, 51, 52, 53, 54, 55, 56, 57, 97, 98, 99, 100, 101, 102]⟩ : ByteArray)[k.1]'k.2).toNat = hexd k := by decide
  exact this ⟨k, h⟩
theorem hxV_none {c : Nat} (h : ∀ j, j < 16 → hexd j ≠ c) : hxV c = -1 := by
  unfold hxV
  split
  · exact absurd (by unfold hexd; split <;> omega) (h (c - 48) (by omega))
  split
  · exact absurd (by unfold hexd; split <;> omega) (h (c - 87) (by omega))
  · rfl
set_option maxHeartbeats 4000000 in
theorem digit_any (c : Nat) (w : World) (hc : c < 256) : Calls Tryd.prog 77 #[.int .u8 c] w fun e w' => e = .returned (.int .i64 (hxV c)) ∧ w = w' := by
  go_enter Tryd.func77, Tryd.ntmps77
  go_wp2_with fail
  go_loop [3] (fun i => ∃ k : Nat, k ≤ 16 ∧ i = .int .i64 k ∧ ∀ j, j < k → hexd j ≠ c) (fun i => 16 - (intOf i).toNat)
  case atStart => exact ⟨0, by omega, rfl, by omega⟩
  case round =>
    obtain ⟨k, hk, rfl, hall⟩ := hrel
    have H := Lib.hid hall
    clear hall
    by_cases hlt : k < 16
    · have hd := digS_at k hlt
      by_cases he : hexd k = c
      · subst he
        have H1 := Lib.hid hlt
        have hki : (k : Int) < 16 := by omega
        go_wp2_with fail
        go_ret
        exact ⟨ret_int (hxV_hexd H1.out).symm, rfl⟩
      · have HE := Lib.hid he
        go_wp2_with fail
        go_round
        case rel => exact ⟨k + 1, by omega, by go_num, fun j hj => by
          rcases Nat.lt_or_ge j k with h | h
          · exact H.out j h
          · obtain rfl : j = k := by omega
            exact HE.out⟩
        case measure => simp [intOf]; omega
    · obtain rfl : k = 16 := by omega
      go_wp2_with fail
      go_ret
      exact ⟨ret_int (hxV_none H.out).symm, rfl⟩
end Go.Proofs.YtfipljhlponcoaaDoor

set_option linter.unusedVariables false
namespace Go.Proofs.YtfipljhlponcoaaDoor
open Go.RowKit
theorem nl_getD (s : ByteArray) (k j : Nat) (h : k + j < s.size) : ((nl s).drop k).getD j 0 = (s[k + j]'h).toNat := by
  rw [List.getD_eq_getElem?_getD, List.getElem?_drop, List.getElem?_eq_getElem (by rw [nl_len]; exact h), nl_at s (k + j) h]
  rfl
theorem nl_dlen (s : ByteArray) (k : Nat) : ((nl s).drop k).length = s.size - k := by rw [List.length_drop, nl_len]
theorem dropn_ne {s : ByteArray} {k : Nat} (h : k < s.size) : (nl s).drop k ≠ [] := fun e => by
  have := nl_dlen s k
  rw [e] at this
  simp at this
  omega
theorem rq_adv {s : ByteArray} {k m : Nat} {out : List Nat} (h : k < s.size) (h34 : s[k].toNat ≠ 34) (hr : rst ((nl s).drop k) = (out, m)) :
    rq ((nl s).drop k) = (out ++ (rq ((nl s).drop (k + m))).1, m + (rq ((nl s).drop (k + m))).2) := by
  have h0 := nl_getD s k 0 h
  rw [rq_step (dropn_ne h) (by rw [h0]; exact h34), hr]
  simp only [List.drop_drop]
theorem rq_fin {s : ByteArray} {k : Nat} (h : ¬ k < s.size ∨ ∃ h : k < s.size, s[k].toNat = 34) : rq ((nl s).drop k) = ([], 0) := by
  rcases h with h | ⟨h, h'⟩
  · exact rq_end (.inl (List.drop_of_length_le (by rw [nl_len]; omega)))
  · exact rq_end (.inr (by rw [nl_getD s k 0 h]; exact h'))
theorem rst_one {s : ByteArray} {k : Nat} (h : k < s.size) (h92 : s[k].toNat ≠ 92) : rst ((nl s).drop k) = ([s[k].toNat], 1) := by
  have h0 := nl_getD s k 0 h
  unfold rst
  rw [h0]
  exact if_pos h92
theorem rst_four {s : ByteArray} {k : Nat} (h : k + 3 < s.size) (h92 : s[k].toNat = 92) (h1 : s[k + 1].toNat = 120) (h2 : 0 ≤ hxV s[k + 2].toNat) (h3 : 0 ≤ hxV s[k + 3].toNat) :
    rst ((nl s).drop k) = ([(16 * hxV s[k + 2].toNat + hxV s[k + 3].toNat).toNat], 4) := by
  unfold rst
  rw [nl_getD s k 0 (by omega), nl_getD s k 1 (by omega), nl_getD s k 2 (by omega), nl_getD s k 3 h, nl_dlen]
  rw [if_neg (by simpa using h92), if_pos ⟨by omega, h1, h2, h3⟩]
theorem rst_two {s : ByteArray} {k : Nat} (h : k + 1 < s.size) (h92 : s[k].toNat = 92) (hn : ¬ ∃ h : k + 3 < s.size, s[k + 1].toNat = 120 ∧ 0 ≤ hxV s[k + 2].toNat ∧ 0 ≤ hxV s[k + 3].toNat) :
    rst ((nl s).drop k) = ([s[k + 1].toNat], 2) := by
  unfold rst
  rw [nl_dlen, if_neg (by rw [nl_getD s k 0 (by omega)]; simpa using h92), if_neg, if_pos (by omega), nl_getD s k 1 h]
  rintro ⟨h4, h5, h6, h7⟩
  have h3 : k + 3 < s.size := by omega
  rw [nl_getD s k 1 h] at h5
  rw [nl_getD s k 2 (by omega)] at h6
  rw [nl_getD s k 3 h3] at h7
  exact hn ⟨h3, h5, h6, h7⟩
theorem rst_zero {s : ByteArray} {k : Nat} (h : k < s.size) (h' : ¬ k + 1 < s.size) (h92 : s[k].toNat = 92) : rst ((nl s).drop k) = ([], 1) := by
  unfold rst
  rw [nl_dlen, if_neg (by rw [nl_getD s k 0 (by omega)]; simpa using h92), if_neg (by omega), if_neg (by omega)]
theorem hxV_le (c : Nat) : -1 ≤ hxV c ∧ hxV c ≤ 15 := by
  unfold hxV
  repeat' split <;> omega
theorem rqF_lt : ∀ (f : Nat) (l : List Nat), (∀ x ∈ l, x < 256) → ∀ x ∈ (rqF f l).1, x < 256
  | 0, l, _, x, hx => by simp [rqF] at hx
  | f + 1, l, hl, x, hx => by
    unfold rqF at hx
    split at hx
    · cases hx
    rcases List.mem_append.1 hx with hx | hx
    · have hg := getD_lt hl
      unfold rst at hx
      split at hx
      · obtain rfl : x = _ := List.mem_singleton.1 hx
        exact hg 0
      split at hx
      · obtain rfl : x = _ := List.mem_singleton.1 hx
        have a1 := (hxV_le (l.getD 2 0)).2
        have a2 := (hxV_le (l.getD 3 0)).2
        omega
      split at hx
      · obtain rfl : x = _ := List.mem_singleton.1 hx
        exact hg 1
      · cases hx
    · exact rqF_lt f _ (drop_lt hl _) x hx
theorem rq_lt {l : List Nat} (hl : ∀ x ∈ l, x < 256) : ∀ x ∈ (rq l).1, x < 256 := rqF_lt _ l hl
/-- The loop's state within quotes: what was read so far and what is still to come. -/
def RQ (s : ByteArray) (W : List Nat) (N k : Nat) (l : List Nat) : Prop := l ++ (rq ((nl s).drop k)).1 = W ∧ k + (rq ((nl s).drop k)).2 = N ∧ l.length ≤ k
theorem RQ.adv {s : ByteArray} {W : List Nat} {N k m : Nat} {l out : List Nat} (h : RQ s W N k l) (hk : k < s.size) (h34 : s[k].toNat ≠ 34) (hr : rst ((nl s).drop k) = (out, m)) : RQ s W N (k + m) (l ++ out) := by
  obtain ⟨h1, h2, h3⟩ := h
  rw [rq_adv hk h34 hr] at h1 h2
  have := (rst_pos ((nl s).drop k)).2
  rw [hr] at this
  refine ⟨by rw [List.append_assoc]; exact h1, by simp only at h2; omega, by simp at this ⊢; omega⟩
theorem RQ.fin {s : ByteArray} {W : List Nat} {N k : Nat} {l : List Nat} (h : RQ s W N k l) (hf : ¬ k < s.size ∨ ∃ h : k < s.size, s[k].toNat = 34) : l = W ∧ k = N := by
  obtain ⟨h1, h2, h3⟩ := h
  rw [rq_fin hf] at h1 h2
  exact ⟨by simpa using h1, by simpa using h2⟩
theorem rword_q {s : ByteArray} (h : 0 < s.size) (h' : s[0].toNat = 34) : rword (nl s) = ((rq ((nl s).drop 1)).1, min (2 + (rq ((nl s).drop 1)).2) s.size) := by
  have h0 := nl_getD s 0 0 h
  rw [List.drop_zero] at h0
  unfold rword
  rw [if_neg, nl_len]
  rintro (h1 | h1)
  · have := nl_len s
    rw [h1] at this
    simp at this
    omega
  · exact h1 (by rw [h0]; exact h')
theorem rword_p {s : ByteArray} (h : ∀ h : 0 < s.size, s[0].toNat ≠ 34) : rword (nl s) = ((nl s).take (spN (nl s)), spN (nl s)) := by
  unfold rword
  rw [if_pos]
  rcases Nat.eq_zero_or_pos s.size with h0 | h0
  · left
    exact List.eq_nil_of_length_eq_zero (by rw [nl_len]; exact h0)
  · right
    have h1 := nl_getD s 0 0 h0
    rw [List.drop_zero] at h1
    rw [h1]
    exact h h0
theorem sp_at {s : ByteArray} {k : Nat} (hk : k ≤ s.size) (ha : ((nl s).take k).all (fun c => c != 32) = true) (hf : ¬ k < s.size ∨ ∃ h : k < s.size, s[k].toNat = 32) : spN (nl s) = k := by
  have h := take_sp ((nl s).take k) ((nl s).drop k) (fun c hc => by simpa using List.all_eq_true.1 ha c hc) (by
    rcases hf with h | ⟨h, h'⟩
    · exact .inl (List.drop_of_length_le (by rw [nl_len]; omega))
    · exact .inr (by rw [nl_getD s k 0 h]; exact h'))
  rw [List.take_append_drop] at h
  rw [h, List.length_take, nl_len]
  omega
end Go.Proofs.YtfipljhlponcoaaDoor
