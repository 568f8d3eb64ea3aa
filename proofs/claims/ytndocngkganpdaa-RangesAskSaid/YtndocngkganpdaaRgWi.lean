/- Both within: the contracts. -/
import Derived.Test.YtndocngkganpdaaRgRows
set_option linter.unusedVariables false
namespace Go.Proofs.Ytndocngkganpdaa
open Go.RowKit
set_option maxRecDepth 100000 in
set_option maxHeartbeats 16000000 in
theorem within_any (b s frm size : Nat) (hb : b < 18446744073709551616) (hs : s < 18446744073709551616) (hf : frm < 18446744073709551616) (hz : size < 18446744073709551616) (w : World) :
    Calls Try.prog 35 #[.agg #[.int .u64 (b : Nat), .int .u64 (s : Nat)], .int .u64 (frm : Nat), .int .u64 (size : Nat)] w fun e w' => e = .returned (.bool (withinB b s frm size)) ∧ Below w.heap.size w w' := by
  have hB : Below w.heap.size w (w.alloc (.cells #[.int .u64 (b : Nat), .int .u64 (s : Nat)] 31)) := (Below.refl _ w).alloc (Nat.le_refl _) _
  have HB := Lib.hid hB
  clear hB
  obtain ⟨r, hr⟩ : ∃ r, r = withinB b s frm size := ⟨_, rfl⟩
  rw [← hr]
  unfold withinB at hr
  by_cases h1 : frm ≤ b
  case neg =>
    obtain rfl : r = false := by rw [hr, decide_eq_false h1]; rfl
    have d1 : (b : Int) < (frm : Int) := by omega
    have d2 : ¬ (frm : Int) ≤ (b : Int) := by omega
    clear hr
    go_enter Try.func35, Try.ntmps35
    go_wp2_with fail
    go_ret
    exact ⟨rfl, HB.out⟩
  have d1 : ¬ (b : Int) < (frm : Int) := by omega
  have d2 : (frm : Int) ≤ (b : Int) := by omega
  rw [decide_eq_true h1, Bool.true_and] at hr
  by_cases h2 : b - frm < size
  case neg =>
    obtain rfl : r = false := by rw [hr, decide_eq_false h2]; rfl
    have d3 : ¬ (b : Int) - (frm : Int) < (size : Int) := by omega
    clear hr
    go_enter Try.func35, Try.ntmps35
    go_wp2_with fail
    go_ret
    exact ⟨rfl, HB.out⟩
  rw [decide_eq_true h2, Bool.true_and] at hr
  have d3 : (b : Int) - (frm : Int) < (size : Int) := by omega
  by_cases h3 : s ≤ size - (b - frm)
  · obtain rfl : r = true := by rw [hr, decide_eq_true h3]
    have d4 : (s : Int) ≤ (size : Int) - ((b : Int) - (frm : Int)) := by omega
    clear hr
    go_enter Try.func35, Try.ntmps35
    go_wp2_with fail
    go_ret
    exact ⟨rfl, HB.out⟩
  · obtain rfl : r = false := by rw [hr, decide_eq_false h3]
    have d4 : ¬ (s : Int) ≤ (size : Int) - ((b : Int) - (frm : Int)) := by omega
    clear hr
    go_enter Try.func35, Try.ntmps35
    go_wp2_with fail
    go_ret
    exact ⟨rfl, HB.out⟩
set_option maxRecDepth 100000 in
set_option maxHeartbeats 16000000 in
theorem rwithin_any (b s frm size : Nat) (hb : b < 18446744073709551616) (hs : s < 18446744073709551616) (hf : frm < 18446744073709551616) (hz : size < 18446744073709551616) (w : World) :
    Calls Try.prog 68 #[.agg #[.int .u64 (b : Nat), .int .u64 (s : Nat)], .int .u64 (frm : Nat), .int .u64 (size : Nat)] w fun e w' => e = .returned (.bool (withinB b s frm size)) ∧ Below w.heap.size w w' := by
  have hB : Below w.heap.size w (w.alloc (.cells #[.int .u64 (b : Nat), .int .u64 (s : Nat)] 37)) := (Below.refl _ w).alloc (Nat.le_refl _) _
  have HB := Lib.hid hB
  clear hB
  obtain ⟨r, hr⟩ : ∃ r, r = withinB b s frm size := ⟨_, rfl⟩
  rw [← hr]
  unfold withinB at hr
  by_cases h1 : frm ≤ b
  case neg =>
    obtain rfl : r = false := by rw [hr, decide_eq_false h1]; rfl
    have d1 : (b : Int) < (frm : Int) := by omega
    have d2 : ¬ (frm : Int) ≤ (b : Int) := by omega
    clear hr
    go_enter Try.func68, Try.ntmps68
    go_wp2_with fail
    go_ret
    exact ⟨rfl, HB.out⟩
  have d1 : ¬ (b : Int) < (frm : Int) := by omega
  have d2 : (frm : Int) ≤ (b : Int) := by omega
  rw [decide_eq_true h1, Bool.true_and] at hr
  by_cases h2 : b - frm ≤ size
  case neg =>
    obtain rfl : r = false := by rw [hr, decide_eq_false (by omega)]; rfl
    have d3 : (size : Int) < (b : Int) - (frm : Int) := by omega
    clear hr
    go_enter Try.func68, Try.ntmps68
    go_wp2_with fail
    go_ret
    exact ⟨rfl, HB.out⟩
  have d3 : ¬ (size : Int) < (b : Int) - (frm : Int) := by omega
  by_cases h0 : s = 0
  · subst h0
    by_cases h3 : b - frm < size
    · obtain rfl : r = true := by rw [hr, decide_eq_true h3, decide_eq_true (Nat.zero_le _)]; rfl
      have d4 : (b : Int) - (frm : Int) < (size : Int) := by omega
      clear hr
      go_enter Try.func68, Try.ntmps68
      go_wp2_with fail
      go_ret
      exact ⟨rfl, HB.out⟩
    · obtain rfl : r = false := by rw [hr, decide_eq_false h3]; rfl
      have d4 : ¬ (b : Int) - (frm : Int) < (size : Int) := by omega
      clear hr
      go_enter Try.func68, Try.ntmps68
      go_wp2_with fail
      go_ret
      exact ⟨rfl, HB.out⟩
  have e0 : ((s : Int) == 0) = false := by rw [beq_eq_false_iff_ne]; omega
  by_cases h3 : s ≤ size - (b - frm)
  · obtain rfl : r = true := by rw [hr, decide_eq_true h3, decide_eq_true (by omega)]; rfl
    have d4 : (s : Int) ≤ (size : Int) - ((b : Int) - (frm : Int)) := by omega
    clear hr
    go_enter Try.func68, Try.ntmps68
    go_wp2_with fail
    go_ret
    exact ⟨rfl, HB.out⟩
  · obtain rfl : r = false := by rw [hr, decide_eq_false h3, Bool.and_false]
    have d4 : ¬ (s : Int) ≤ (size : Int) - ((b : Int) - (frm : Int)) := by omega
    clear hr
    go_enter Try.func68, Try.ntmps68
    go_wp2_with fail
    go_ret
    exact ⟨rfl, HB.out⟩
end Go.Proofs.Ytndocngkganpdaa
