/- The 3rd document's above and Depth: the contracts. -/
import Derived.Test.YtndocngkganpdaaT3Props
set_option linter.unusedVariables false
namespace Go.Proofs.Ytndocngkganpdaa
open Go.RowKit
set_option maxRecDepth 100000 in
set_option maxHeartbeats 16000000 in
theorem up3_any (A : Option Addr) (cap n : Nat) (l : List Nm) (hn : n = l.length) (hl : n ≤ 1125899906842624) (p : Int) (C : Int → Bool) (m : Nat) (hm : m ≤ n) (hneg : ∀ j, j < 0 → C j = false)
    (hst : ∀ k : Nat, k < m → parAt (dat l) k < k ∧ C k = (((k : Int) == p) || C (parAt (dat l) k))) (i : Int) (hi : i < m) (w : World) (B : Nat) (hs : Nodes w B A l) :
    Calls Try.prog 26 #[.slice A n cap, .int .i64 p, .int .i64 i] w fun e w' => e = .returned (.bool (C i)) ∧ w = w' := by
  obtain ⟨r, hr⟩ : ∃ r, r = C i := ⟨_, rfl⟩
  rw [← hr]
  have HN := Lib.hid hn
  have HS := Lib.hid hs
  have HST := Lib.hid hst
  have HNEG := Lib.hid hneg
  clear hn hs hst hneg
  go_enter Try.func26, Try.ntmps26
  go_wp2_with fail
  go_loop [2] (fun iv => ∃ j : Int, iv = .int .i64 j ∧ j < m ∧ r = C j) (fun iv => (intOf iv + 1).toNat)
  case atStart => exact ⟨i, rfl, hi, hr⟩
  case round =>
    obtain ⟨j, rfl, hj, hrj⟩ := hrel
    have HR := Lib.hid hrj
    clear hrj hr
    by_cases h0 : j < 0
    · have e1 : decide (0 ≤ j) = false := decide_eq_false (by omega)
      obtain rfl : r = false := by rw [HR.out]; exact HNEG.out j h0
      go_wp2_with fail
      go_ret
      exact ⟨rfl, rfl⟩
    · obtain ⟨k, rfl⟩ := Int.eq_ofNat_of_zero_le (show 0 ≤ j by omega)
      have e1 : decide (0 ≤ (k : Int)) = true := decide_eq_true (by omega)
      have hkm : k < m := by omega
      have hkl : k < l.length := by rw [← HN.out]; omega
      have hki : (k : Int) < (n : Int) := by omega
      obtain ⟨q1, q2⟩ := HST.out k hkm
      rw [par_get l hkl] at q1 q2
      obtain ⟨b0, off0, rfl, _, x0, _⟩ := HS.out.at_ hkl
      obtain ⟨x, hx⟩ : ∃ x, x = l[k].d.p := ⟨_, rfl⟩
      rw [← hx] at q1 q2 x0
      by_cases hkp : (k : Int) = p
      · obtain rfl : r = true := by rw [HR.out, q2, hkp, beq_self_eq_true, Bool.true_or]
        have d1 : ((k : Int) == p) = true := by rw [hkp]; exact beq_self_eq_true _
        clear hkp q1 q2 hx
        go_wp2_with fail
        go_ret
        exact ⟨rfl, rfl⟩
      · have d1 : ((k : Int) == p) = false := by rw [beq_eq_false_iff_ne]; exact hkp
        rw [d1, Bool.false_or] at q2
        have Q2 := Lib.hid (HR.out.trans q2)
        clear hkp q2 hx
        go_wp2_with fail
        exact ⟨⟨x, rfl, by omega, Q2.out⟩, by simp [intOf]; omega⟩
set_option maxRecDepth 100000 in
set_option maxHeartbeats 16000000 in
theorem depth3_any (A : Option Addr) (cap n : Nat) (l : List Nm) (hn : n = l.length) (hl : n ≤ 1125899906842624) (D : Int → Nat) (m : Nat) (hm : m ≤ n) (hneg : ∀ j, j < 0 → D j = 0)
    (hst : ∀ k : Nat, k < m → parAt (dat l) k < k ∧ D k = 1 + D (parAt (dat l) k)) (i : Int) (hi : i < m) (hD : D i ≤ 1125899906842624) (w : World) (B : Nat) (hs : Nodes w B A l) :
    Calls Try.prog 27 #[.slice A n cap, .int .i64 i] w fun e w' => e = .returned (.int .i64 (D i : Nat)) ∧ w = w' := by
  obtain ⟨r, hr⟩ : ∃ r, r = D i := ⟨_, rfl⟩
  rw [← hr] at hD ⊢
  have HN := Lib.hid hn
  have HS := Lib.hid hs
  have HST := Lib.hid hst
  have HNEG := Lib.hid hneg
  have H0 := Lib.hid hr
  clear hn hs hst hneg hr
  go_enter Try.func27, Try.ntmps27
  go_wp2_with fail
  go_loop [1, 5] (fun iv dv => ∃ (j : Int) (d : Nat), iv = .int .i64 j ∧ dv = .int .i64 d ∧ j < m ∧ r = d + D j) (fun iv _ => (intOf iv + 1).toNat)
  case atStart => exact ⟨i, 0, rfl, rfl, hi, by rw [Nat.zero_add]; exact H0.out⟩
  case round =>
    obtain ⟨j, d, rfl, rfl, hj, hrj⟩ := hrel
    have HR := Lib.hid hrj
    clear hrj H0
    by_cases h0 : j < 0
    · have e1 : decide (0 ≤ j) = false := decide_eq_false (by omega)
      obtain rfl : r = d := by rw [HR.out, HNEG.out j h0]; rfl
      go_wp2_with fail
      go_ret
      exact ⟨rfl, rfl⟩
    · obtain ⟨k, rfl⟩ := Int.eq_ofNat_of_zero_le (show 0 ≤ j by omega)
      have e1 : decide (0 ≤ (k : Int)) = true := decide_eq_true (by omega)
      have hkm : k < m := by omega
      have hkl : k < l.length := by rw [← HN.out]; omega
      have hki : (k : Int) < (n : Int) := by omega
      obtain ⟨q1, q2⟩ := HST.out k hkm
      rw [par_get l hkl] at q1 q2
      obtain ⟨b0, off0, rfl, _, x0, _⟩ := HS.out.at_ hkl
      obtain ⟨x, hx⟩ : ∃ x, x = l[k].d.p := ⟨_, rfl⟩
      rw [← hx] at q1 q2 x0
      have hr2 : r = (d + 1) + D x := by rw [HR.out, q2]; omega
      have hd : d + 1 ≤ 1125899906842624 := by omega
      have HR2 := Lib.hid hr2
      clear q2 hx hr2
      go_wp2_with fail
      exact ⟨⟨x, d + 1, rfl, by go_num, by omega, HR2.out⟩, by simp [intOf]; omega⟩
end Go.Proofs.Ytndocngkganpdaa
