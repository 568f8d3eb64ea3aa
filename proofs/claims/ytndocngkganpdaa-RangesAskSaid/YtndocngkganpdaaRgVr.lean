/- The document's value and number: the contracts. -/
import Derived.Test.YtndocngkganpdaaRgSpc
set_option linter.unusedVariables false
namespace Go.Proofs.Ytndocngkganpdaa
open Go.RowKit
set_option maxRecDepth 100000 in
set_option maxHeartbeats 16000000 in
theorem rvalue_any (p : Int) (nm : ByteArray) (A : Option Addr) (c n : Nat) (ps : List Pr) (hn : n = ps.length) (hl : n ≤ 4398046511104) (k : ByteArray) (w : World) (B : Nat) (hB : B ≤ w.heap.size) (hs : Seg w B A (prCells ps)) :
    Calls Try.prog 65 #[.agg #[.int .i64 p, .string nm, .slice A n c], .string k] w fun e w' => e = .returned (.tuple #[.string (valV ps k).1, .bool (valV ps k).2]) ∧ Below w.heap.size w w' := by
  have HN := Lib.hid hn
  have hb0 : Below w.heap.size w (w.alloc (.cells #[.int .i64 p, .string nm, .slice A n c] 42)) := (Below.refl _ w).alloc (Nat.le_refl _) _
  have HB0 := Lib.hid hb0
  have hsg := Lib.hid (hs.below (hb0.mono hB))
  clear hn hb0 hs
  go_enter Try.func65, Try.ntmps65
  go_wp2_with fail
  go_loopw [6] (fun iv wx => ∃ i : Nat, iv = .int .i64 i ∧ i ≤ n ∧ (∀ j (hj : j < ps.length), j < i → ps[j].n ≠ k) ∧ wx = w.alloc (.cells #[.int .i64 p, .string nm, .slice A n c] 42)) (fun iv _ => n - (intOf iv).toNat)
  case atStart => exact ⟨0, rfl, by omega, by omega, rfl⟩
  case round =>
    obtain ⟨i, rfl, hi, hno, rfl⟩ := hrel
    have HNO := Lib.hid hno
    clear hno
    by_cases hlt : i < n
    · have hki : (i : Int) < (n : Int) := by omega
      have hip : i < ps.length := by rw [← HN.out]; exact hlt
      obtain ⟨b', off, hA, _, x0, x1⟩ := hsg.out.pr hip
      subst hA
      by_cases hk : ps[i].n = k
      · have e2 : (ps[i].n.toList == k.toList) = true := by rw [str_eq]; exact decide_eq_true hk
        have HX := Lib.hid (ix_hit hip hk HNO.out).2
        have HK := Lib.hid hk
        clear hk
        go_wp2_with fail
        go_ret2
        have : valV ps k = (ps[i].v, true) := by unfold valV; rw [HX.out]
        rw [this]
        exact ⟨rfl, HB0.out⟩
      · have e2 : (ps[i].n.toList == k.toList) = false := by rw [str_eq]; exact decide_eq_false hk
        have HK := Lib.hid hk
        clear hk
        go_wp2_with fail
        refine ⟨⟨i + 1, by go_num, hlt, fun j hj hji => ?_, trivial⟩, by simp [intOf]; omega⟩
        rcases Nat.lt_or_ge j i with h | h
        · exact HNO.out j hj h
        · obtain rfl : j = i := by omega
          exact HK.out
    · have hki : ¬ (i : Int) < (n : Int) := by omega
      have HX := Lib.hid (ix_miss (k := k) (ps := ps) fun j hj => HNO.out j hj (by have := HN.out; omega)).2
      go_wp2_with fail
      go_ret2
      have : valV ps k = (⟨#[]⟩, false) := by unfold valV; rw [HX.out]
      rw [this]
      exact ⟨rfl, HB0.out⟩
set_option maxRecDepth 100000 in
set_option maxHeartbeats 16000000 in
theorem number_any (s : ByteArray) (hz : s.size ≤ 8) (w : World) :
    Calls Try.prog 66 #[.string s] w fun e w' => e = .returned (.int .u64 (num (nl s) : Nat)) ∧ w = w' := by
  go_enter Try.func66, Try.ntmps66
  go_wp2_with fail
  go_loop [3, 4] (fun x y => ∃ i : Nat, x = .int .u64 (num ((nl s).take i) : Nat) ∧ y = .int .i64 i ∧ i ≤ s.size) (fun _ y => s.size - (intOf y).toNat)
  case atStart => exact ⟨0, rfl, rfl, Nat.zero_le _⟩
  case round =>
    obtain ⟨i, rfl, rfl, hi⟩ := hrel
    obtain ⟨m, hm⟩ : ∃ m, m = num ((nl s).take i) := ⟨_, rfl⟩
    rw [← hm]
    have HM := Lib.hid hm
    have hb := num_lt (take_lt (nl_lt s) i)
    rw [List.length_take, nl_len, Nat.min_eq_left hi, ← hm] at hb
    clear hm
    by_cases hlt : i < s.size
    · have hki : (i : Int) < (s.size : Int) := by omega
      have h7 : 256 ^ i ≤ 256 ^ 7 := Nat.pow_le_pow_right (by omega) (by omega)
      have h77 : 256 ^ 7 = 72057594037927936 := by decide
      have hm7 : m < 72057594037927936 := by omega
      have hc := s[i].toNat_lt
      have hst := num_take (nl s) (k := i) (by rw [nl_len]; exact hlt)
      rw [nl_at s i hlt, ← HM.out] at hst
      have HST := Lib.hid hst
      clear hb h7 h77 hst
      go_wp2_with fail
      refine ⟨⟨i + 1, by rw [HST.out]; push_cast; rfl, by go_num, hlt⟩, by simp [intOf]; omega⟩
    · have hki : ¬ (i : Int) < (s.size : Int) := by omega
      obtain rfl : i = s.size := by omega
      have HE : m = num (nl s) := by rw [HM.out, List.take_of_length_le (by rw [nl_len]; exact Nat.le_refl _)]
      have HE := Lib.hid HE
      go_wp2_with fail
      go_ret
      exact ⟨rfl, rfl⟩
end Go.Proofs.Ytndocngkganpdaa
