/- A node's handle: the contracts of both sides. -/
import Derived.Test.YtmdnbajbfnhecaaDoorFVal
import Derived.Test.YtmdnbajbfnhecaaDoorOneC
import Derived.Test.YtmdnbajbfnhecaaDoorPush
set_option linter.unusedVariables false
namespace Go.Proofs.YtmdnbajbfnhecaaDoor
open Go.RowKit
set_option maxRecDepth 100000 in
set_option maxHeartbeats 16000000 in
theorem number_any (s : ByteArray) (hz : s.size ≤ 8) (w : World) :
    Calls Tryd.prog 111 #[.string s] w fun e w' => e = .returned (.int .u64 (num (nl s) : Nat)) ∧ w = w' := by
  go_enter Tryd.func111, Tryd.ntmps111
  go_wp2_with fail
  go_loop [3, 4] (fun x y => ∃ i : Nat, x = .int .u64 (num ((nl s).take i) : Nat) ∧ y = .int .i64 i ∧ i ≤ s.size) (fun _ y => s.size - (intOf y).toNat)
  case atStart => exact ⟨0, rfl, rfl, Nat.zero_le _⟩
  case round =>
    obtain ⟨i, rfl, rfl, hi⟩ := hrel
    obtain ⟨m, hm⟩ : ∃ m, m = num ((nl s).take i) := ⟨_, rfl⟩
    rw [← hm]
    have HM := Lib.hid hm
    have hb := num_lt (take_lt (nl_lt s) i)
    rw [List.length_take, nl_len, Nat.min_eq_left hi, ← hm] at hb
    clear hm
    by_cases hlt : i < s.size
    · have hki : (i : Int) < (s.size : Int) := by omega
      have h7 : 256 ^ i ≤ 256 ^ 7 := Nat.pow_le_pow_right (by omega) (by omega)
      have h77 : 256 ^ 7 = 72057594037927936 := by decide
      have hm7 : m < 72057594037927936 := by omega
      have hc := s[i].toNat_lt
      have hst := num_take (nl s) (k := i) (by rw [nl_len]; exact hlt)
      rw [nl_at s i hlt, ← HM.out] at hst
      have HST := Lib.hid hst
      clear hb h7 h77 hst
      go_wp2_with fail
      refine ⟨⟨i + 1, by rw [HST.out]; push_cast; rfl, by go_num, hlt⟩, by simp [intOf]; omega⟩
    · have hki : ¬ (i : Int) < (s.size : Int) := by omega
      obtain rfl : i = s.size := by omega
      have HE : m = num (nl s) := by rw [HM.out, List.take_of_length_le (by rw [nl_len]; exact Nat.le_refl _)]
      have HE := Lib.hid HE
      go_wp2_with fail
      go_ret
      exact ⟨rfl, rfl⟩
set_option maxRecDepth 100000 in
set_option maxHeartbeats 4000000 in
theorem ru32s_any (s : ByteArray) (hz : s.size ≤ 1048576) (w : World) :
    Calls Tryd.prog 102 #[.string s] w fun e w' => U32R s w.heap.size e w' ∧ Below w.heap.size w w' := by
  by_cases h4 : s.size % 4 = 0
  · obtain ⟨i0, fi, fz0, fz1, fz2⟩ := info_parts info23
    have m4 : ((s.size : Int) % 4 != 0) = false := by simp; omega
    have H4 := Lib.hid h4
    clear h4
    go_enter Tryd.func102, Tryd.ntmps102
    go_wp2_with fail
    go_loopw [4, 5] (fun v iv wx => ∃ (k q c : Nat) (A : Option Addr) (xs : List Value), v = .slice A k c ∧ iv = .int .i64 q ∧ q = 4 * k ∧ q ≤ s.size ∧ wx.ownsRow w.heap.size 23 1 (.slice A k c) k xs ∧ (s.size = 4 → k = 1 → xs = [.int .u32 (num (nl s) : Nat)]) ∧ Below w.heap.size w wx) (fun _ iv _ => s.size - (intOf iv).toNat)
    case atStart => exact ⟨0, 0, 0, none, [], rfl, rfl, by omega, by omega, World.ownsRow_nil _ _ _ _, by omega, Below.refl _ _⟩
    case round =>
      obtain ⟨k, q, c, A, xs, rfl, rfl, hq, hqs, hown, hx, hb⟩ := hrel
      have h4 := H4.out
      have HQ := Lib.hid hq
      have HO := Lib.hid hown
      have HX := Lib.hid hx
      have HB := Lib.hid hb
      by_cases hlt : q < s.size
      · have hqi : (q : Int) < (s.size : Int) := by omega
        have hq4 : (q : Int) + 4 ≤ (s.size : Int) := by omega
        have hq5 : q + 4 ≤ s.size := by omega
        obtain ⟨t, ht⟩ : ∃ t, t = s.extract q (q + 4) := ⟨_, rfl⟩
        have htz : t.size = 4 := by rw [ht, ByteArray.size_extract]; omega
        have hv := num_u32 (nl_lt t) (by rw [nl_len, htz]; omega)
        have hnum := number_any t (by omega) wr
        have hk : k ≤ 262144 := by omega
        obtain ⟨N, hN⟩ : ∃ N, N = num (nl t) := ⟨_, rfl⟩
        rw [← hN] at hv hnum
        have hbs : w.heap.size ≤ wr.heap.size := hb.size
        have HT := Lib.hid ht
        have HN := Lib.hid hN
        have HNUM := Lib.hid hnum
        clear hq hown hx hb ht htz hN hnum h4
        go_wp2_with (first
          | (go_at_call 111
             rw [← HT.out]
             refine HNUM.out.mono ?_
             rintro e w1 ⟨rfl, rfl⟩)
          | (at_builtin; refine wpList_push rfl (.tmp 16) (.tmp 24) 99 rfl w.heap.size 23 i0 _ 1 4 Tryd.underlying99 fi fz0 fz1 fz2 rfl (by decide) _ k xs rfl HO.out #[.int .u32 (N : Nat)] rfl rfl ?_ ?_ ?_ ?_ ?_))
        · first | rfl | (intro u hu; simp at hu; subst hu; rfl)
        · unfold maxLen; omega
        · omega
        · exact hbs
        intro A5 c5 w5 hown5 hp5
        have hb5 := HB.out.trans hp5.low
        have hx5 : s.size = 4 → k + 1 = 1 → xs ++ (#[Value.int .u32 (N : Nat)]).toList = [.int .u32 (num (nl s) : Nat)] := fun h1 h2 => by
          obtain rfl : k = 0 := by omega
          have hq0 : q = 0 := by have := HQ.out; omega
          have hxs : xs = [] := List.eq_nil_of_length_eq_zero (by have := HO.out.1; simpa using this)
          have ht : t = s := by rw [HT.out, hq0, Nat.zero_add, ← h1]; exact ByteArray.extract_zero_size
          rw [hxs, HN.out, ht]
          rfl
        have HO5 := Lib.hid hown5
        have HB5 := Lib.hid hb5
        have HX5 := Lib.hid hx5
        clear hown5 hp5 hb5 hx5
        go_wp2_with fail
        exact ⟨⟨k + 1, q + 4, c5, A5, _, rfl, by go_num, by have := HQ.out; omega, hq5, HO5.out, HX5.out, HB5.out⟩, by simp [intOf]; omega⟩
      · obtain rfl : q = s.size := by omega
        clear hq hown hx hb h4
        go_wp2_with fail
        go_ret2
        refine ⟨?_, HB.out⟩
        unfold U32R
        rw [if_neg (by have := H4.out; omega)]
        have hk : k = s.size / 4 := by have := HQ.out; omega
        rw [← hk]
        exact ⟨A, c, xs, rfl, HO.out, fun h => HX.out h (by have := HQ.out; omega)⟩
  · have m4 : ((s.size : Int) % 4 != 0) = true := by simp; omega
    have HH := Lib.hid h4
    clear h4
    go_enter Tryd.func102, Tryd.ntmps102
    go_wp2_with fail
    go_ret2
    exact ⟨by unfold U32R; rw [if_pos HH.out]; rfl, Below.refl _ _⟩
set_option maxRecDepth 100000 in
set_option maxHeartbeats 16000000 in
theorem rone_any (s : ByteArray) (hz : s.size ≤ 1048576) (w : World) :
    Calls Tryd.prog 88 #[.string s] w fun e w' => e = .returned (.tuple #[.int .u32 ((oneC s).1 : Nat), .int .i64 ((oneC s).2 : Nat)]) ∧ Below w.heap.size w w' := by
  have HU0 := ru32s_any s hz w
  by_cases h4 : s.size % 4 = 0
  · have HU : Calls Tryd.prog 102 #[.string s] w fun e w' => (∃ A c xs, e = .returned (.tuple #[.slice A (s.size / 4) c, .int .i64 0]) ∧ w'.ownsRow w.heap.size 23 1 (.slice A (s.size / 4) c) (s.size / 4) xs ∧ (s.size = 4 → xs = [.int .u32 (num (nl s) : Nat)])) ∧ Below w.heap.size w w' := HU0.mono fun e w' h => ⟨by
      have h1 := h.1
      unfold U32R at h1
      rw [if_neg (by omega)] at h1
      exact h1, h.2⟩
    clear HU0
    by_cases hs : s.size = 4
    · have e : oneC s = (num (nl s), 0) := by unfold oneC; rw [if_pos hs]
      rw [e]
      have hN : s.size / 4 = 1 := by omega
      rw [hN] at HU
      have H := Lib.hid HU
      have HS := Lib.hid hs
      have hv := num_u32 (nl_lt s) (by rw [nl_len]; omega)
      clear HU hs h4 hN e
      go_enter Tryd.func88, Tryd.ntmps88
      go_wp2_with (first
        | (go_at_call 102; refine H.out.mono ?_; rintro e w1 ⟨⟨A, c, xs, rfl, hown, hx⟩, hb⟩
           obtain rfl := hx HS.out
           obtain ⟨g, rfl, _, _⟩ := own_head hown (by omega)
           have x0 : w1.cell? ⟨g, 0, none⟩ = some (.int .u32 (num (nl s) : Nat)) := (by rw [hown.cellAt 0 (by omega)]; rfl)
           have HB := Lib.hid hb; clear hown hb hx)
        | fail)
      go_ret2
      exact ⟨rfl, HB.out⟩
    · have e : oneC s = (0, 4) := by unfold oneC; rw [if_neg hs]
      rw [e]
      have H := Lib.hid HU
      obtain ⟨N, hN⟩ : ∃ N, s.size / 4 = N := ⟨_, rfl⟩
      have n1 : ((N : Int) != 1) = true := by simp; omega
      rw [hN] at H
      clear HU hs h4 hN e
      go_enter Tryd.func88, Tryd.ntmps88
      go_wp2_with (first
        | (go_at_call 102; refine H.out.mono ?_; rintro e w1 ⟨⟨A, c, xs, rfl, hown, hx⟩, hb⟩; have HB := Lib.hid hb; clear hown hb hx)
        | fail)
      go_ret2
      exact ⟨rfl, HB.out⟩
  · have e : oneC s = (0, 4) := by unfold oneC; rw [if_neg (by omega)]
    rw [e]
    have HU : Calls Tryd.prog 102 #[.string s] w fun e w' => e = .returned (.tuple #[.slice none 0 0, .int .i64 4]) ∧ Below w.heap.size w w' := HU0.mono fun e w' h => ⟨by
      have h1 := h.1
      unfold U32R at h1
      rw [if_pos h4] at h1
      exact h1, h.2⟩
    have H := Lib.hid HU
    clear HU HU0 h4 e
    go_enter Tryd.func88, Tryd.ntmps88
    go_wp2_with (first
      | (go_at_call 102; refine H.out.mono ?_; rintro e w1 ⟨rfl, hb⟩; have HB := Lib.hid hb; clear hb)
      | fail)
    go_ret2
    exact ⟨rfl, HB.out⟩
/-- A node's handle: 0 if it has none. -/
def kPh : ByteArray := ⟨#[112, 104, 97, 110, 100, 108, 101]⟩
def handF (ps : List Pr) : Nat := if valB ps kPh = true ∧ (oneC (valS ps kPh)).2 = 0 then (oneC (valS ps kPh)).1 else 0
theorem one_two (s : ByteArray) : (oneC s).2 = 0 ∨ (oneC s).2 = 4 := by
  unfold oneC
  split
  · exact .inl rfl
  · exact .inr rfl
set_option maxRecDepth 100000 in
set_option maxHeartbeats 4000000 in
theorem handle_any (p : Int) (s : ByteArray) (A : Option Addr) (c m : Nat) (ps : List Pr) (hm : m = ps.length) (hz : m * 32 ≤ 140737488355328) (hv : ∀ y ∈ ps, y.v.size ≤ 1048576) (w : World) (B : Nat) (hB : B ≤ w.heap.size) (hs : Seg w B A (prCells ps)) :
    Calls Tryd.prog 34 #[.agg #[.int .i64 p, .string s, .slice A m c]] w fun e w' => e = .returned (.int .u32 (handF ps : Nat)) ∧ Below w.heap.size w w' := by
  have hb0 : Below w.heap.size w (w.alloc (.cells #[.int .i64 p, .string s, .slice A m c] 43)) := (Below.refl _ w).alloc (Nat.le_refl _) _
  have V := value_any p s A c m ps hm hz kPh _ B (Nat.le_trans hB hb0.size) (hs.below (hb0.mono hB))
  have O := cone_any (valS ps kPh) (val_le hv)
  have e0 : handF ps = if valB ps kPh = true ∧ (oneC (valS ps kPh)).2 = 0 then (oneC (valS ps kPh)).1 else 0 := rfl
  have ho := one_two (valS ps kPh)
  rw [e0]
  generalize valS ps kPh = vs at *
  generalize valB ps kPh = vb at *
  generalize oneC vs = oc at *
  obtain ⟨o1, o2⟩ := oc
  simp only at O ho ⊢
  have HV := Lib.hid V
  have HO := Lib.hid O
  have HB0 := Lib.hid hb0
  have hs0 := hb0.size
  clear V O hb0 hm hs e0
  rcases vb with _ | _
  · rw [if_neg (by simp)]
    go_enter Tryd.func34, Tryd.ntmps34
    go_wp2_with (first
      | (go_at_call 36; refine HV.out.mono ?_; rintro e w1 ⟨rfl, hb1⟩; have HB1 := Lib.hid (HB0.out.trans (hb1.mono hs0)); clear hb1)
      | (go_at_call 66; refine (HO.out _).mono ?_; rintro e w2 ⟨rfl, hb2⟩; have HB2 := Lib.hid (below_next HB1.out hb2); clear hb2))
    go_ret
    exact ⟨rfl, HB2.out⟩
  · rcases ho with rfl | rfl
    · rw [if_pos ⟨rfl, rfl⟩]
      go_enter Tryd.func34, Tryd.ntmps34
      go_wp2_with (first
        | (go_at_call 36; refine HV.out.mono ?_; rintro e w1 ⟨rfl, hb1⟩; have HB1 := Lib.hid (HB0.out.trans (hb1.mono hs0)); clear hb1)
        | (go_at_call 66; refine (HO.out _).mono ?_; rintro e w2 ⟨rfl, hb2⟩; have HB2 := Lib.hid (below_next HB1.out hb2); clear hb2))
      go_ret
      exact ⟨rfl, HB2.out⟩
    · rw [if_neg (by simp)]
      go_enter Tryd.func34, Tryd.ntmps34
      go_wp2_with (first
        | (go_at_call 36; refine HV.out.mono ?_; rintro e w1 ⟨rfl, hb1⟩; have HB1 := Lib.hid (HB0.out.trans (hb1.mono hs0)); clear hb1)
        | (go_at_call 66; refine (HO.out _).mono ?_; rintro e w2 ⟨rfl, hb2⟩; have HB2 := Lib.hid (below_next HB1.out hb2); clear hb2))
      go_ret
      exact ⟨rfl, HB2.out⟩
set_option maxRecDepth 100000 in
set_option maxHeartbeats 4000000 in
theorem named_any (p : Int) (s : ByteArray) (A : Option Addr) (c m : Nat) (ps : List Pr) (hm : m = ps.length) (hz : m * 32 ≤ 140737488355328) (hv : ∀ y ∈ ps, y.v.size ≤ 1048576) (w : World) (B : Nat) (hB : B ≤ w.heap.size) (hs : Seg w B A (prCells ps)) :
    Calls Tryd.prog 67 #[.agg #[.int .i64 p, .string s, .slice A m c]] w fun e w' => e = .returned (.int .u32 (handF ps : Nat)) ∧ Below w.heap.size w w' := by
  have hb0 : Below w.heap.size w (w.alloc (.cells #[.int .i64 p, .string s, .slice A m c] 43)) := (Below.refl _ w).alloc (Nat.le_refl _) _
  have V := rvalue_any p s A c m ps hm hz kPh _ B (Nat.le_trans hB hb0.size) (hs.below (hb0.mono hB))
  have O := rone_any (valS ps kPh) (val_le hv)
  have e0 : handF ps = if valB ps kPh = true ∧ (oneC (valS ps kPh)).2 = 0 then (oneC (valS ps kPh)).1 else 0 := rfl
  have ho := one_two (valS ps kPh)
  rw [e0]
  generalize valS ps kPh = vs at *
  generalize valB ps kPh = vb at *
  generalize oneC vs = oc at *
  obtain ⟨o1, o2⟩ := oc
  simp only at O ho ⊢
  have HV := Lib.hid V
  have HO := Lib.hid O
  have HB0 := Lib.hid hb0
  have hs0 := hb0.size
  clear V O hb0 hm hs e0
  rcases vb with _ | _
  · rw [if_neg (by simp)]
    go_enter Tryd.func67, Tryd.ntmps67
    go_wp2_with (first
      | (go_at_call 38; refine HV.out.mono ?_; rintro e w1 ⟨rfl, hb1⟩; have HB1 := Lib.hid (HB0.out.trans (hb1.mono hs0)); clear hb1)
      | (go_at_call 88; refine (HO.out _).mono ?_; rintro e w2 ⟨rfl, hb2⟩; have HB2 := Lib.hid (below_next HB1.out hb2); clear hb2))
    go_ret
    exact ⟨rfl, HB2.out⟩
  · rcases ho with rfl | rfl
    · rw [if_pos ⟨rfl, rfl⟩]
      go_enter Tryd.func67, Tryd.ntmps67
      go_wp2_with (first
        | (go_at_call 38; refine HV.out.mono ?_; rintro e w1 ⟨rfl, hb1⟩; have HB1 := Lib.hid (HB0.out.trans (hb1.mono hs0)); clear hb1)
        | (go_at_call 88; refine (HO.out _).mono ?_; rintro e w2 ⟨rfl, hb2⟩; have HB2 := Lib.hid (below_next HB1.out hb2); clear hb2))
      go_ret
      exact ⟨rfl, HB2.out⟩
    · rw [if_neg (by simp)]
      go_enter Tryd.func67, Tryd.ntmps67
      go_wp2_with (first
        | (go_at_call 38; refine HV.out.mono ?_; rintro e w1 ⟨rfl, hb1⟩; have HB1 := Lib.hid (HB0.out.trans (hb1.mono hs0)); clear hb1)
        | (go_at_call 88; refine (HO.out _).mono ?_; rintro e w2 ⟨rfl, hb2⟩; have HB2 := Lib.hid (below_next HB1.out hb2); clear hb2))
      go_ret
      exact ⟨rfl, HB2.out⟩
end Go.Proofs.YtmdnbajbfnhecaaDoor
