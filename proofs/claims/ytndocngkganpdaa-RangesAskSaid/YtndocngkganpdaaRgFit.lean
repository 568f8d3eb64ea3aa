/- Both fits: the contracts. -/
import Derived.Test.YtndocngkganpdaaRgRo
set_option linter.unusedVariables false
namespace Go.Proofs.Ytndocngkganpdaa
open Go.RowKit
set_option maxRecDepth 100000 in
theorem fits_any (a b : Nat) (ha : a < 18446744073709551616) (hb : b < 18446744073709551616) (w : World) :
    Calls Try.prog 29 #[.int .u64 (a : Nat), .int .u64 (b : Nat)] w fun e w' => e = .returned (.bool (fitsB a b)) ∧ w = w' := by
  by_cases h0 : b = 0
  · subst h0
    go_enter Try.func29, Try.ntmps29
    go_wp2_with fail
    go_ret
    exact ⟨rfl, rfl⟩
  · have hx : fitsB a b = decide ((a : Int) ≤ 18446744073709551616 - (b : Int)) := by
      unfold fitsB
      rw [show (b == 0) = false from by rw [beq_eq_false_iff_ne]; exact h0, Bool.false_or]
      rw [Bool.eq_iff_iff, decide_eq_true_iff, decide_eq_true_iff]; omega
    rw [hx]
    have e1 : ((b : Int) == 0) = false := by rw [beq_eq_false_iff_ne]; omega
    by_cases hd : (a : Int) ≤ 18446744073709551616 - (b : Int)
    · have hd2 : (a : Int) ≤ 18446744073709551615 - ((b : Int) - 1) := by omega
      rw [decide_eq_true hd]
      go_enter Try.func29, Try.ntmps29
      go_wp2_with fail
      go_ret
      exact ⟨rfl, rfl⟩
    · have hd2 : ¬ (a : Int) ≤ 18446744073709551615 - ((b : Int) - 1) := by omega
      rw [decide_eq_false hd]
      go_enter Try.func29, Try.ntmps29
      go_wp2_with fail
      go_ret
      exact ⟨rfl, rfl⟩
set_option maxRecDepth 100000 in
theorem rfits_any (a b : Nat) (ha : a < 18446744073709551616) (hb : b < 18446744073709551616) (w : World) :
    Calls Try.prog 57 #[.int .u64 (a : Nat), .int .u64 (b : Nat)] w fun e w' => e = .returned (.bool (fitsB a b)) ∧ w = w' := by
  by_cases h0 : b = 0
  · subst h0
    go_enter Try.func57, Try.ntmps57
    go_wp2_with fail
    go_ret
    exact ⟨rfl, rfl⟩
  · have hx : fitsB a b = decide ((a : Int) ≤ 18446744073709551616 - (b : Int)) := by
      unfold fitsB
      rw [show (b == 0) = false from by rw [beq_eq_false_iff_ne]; exact h0, Bool.false_or]
      rw [Bool.eq_iff_iff, decide_eq_true_iff, decide_eq_true_iff]; omega
    rw [hx]
    have e1 : ((b : Int) == 0) = false := by rw [beq_eq_false_iff_ne]; omega
    have wr : IntKind.u64.wrap (-(b : Int)) = 18446744073709551616 - (b : Int) := by
      rw [IntKind.wrap_u64]; omega
    by_cases hd : (a : Int) ≤ 18446744073709551616 - (b : Int)
    · rw [decide_eq_true hd]
      go_enter Try.func57, Try.ntmps57
      go_wp2_with fail
      go_ret
      exact ⟨rfl, rfl⟩
    · rw [decide_eq_false hd]
      go_enter Try.func57, Try.ntmps57
      go_wp2_with fail
      go_ret
      exact ⟨rfl, rfl⟩
end Go.Proofs.Ytndocngkganpdaa
