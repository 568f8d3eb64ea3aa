/- node and wrong: the contracts. -/
import Derived.Test.YtndocngkganpdaaT3Tree
import Derived.Test.YtndocngkganpdaaPCheck
set_option linter.unusedVariables false
namespace Go.Proofs.Ytndocngkganpdaa
open Go.RowKit
set_option maxRecDepth 100000 in
set_option maxHeartbeats 16000000 in
theorem node_any (A : Option Addr) (cap n : Nat) (l : List Nm) (hn : n = l.length) (hsz : Sized l) (i : Int) (least : Int) (w : World) (B : Nat) (hB : B ≤ w.heap.size) (hs : Nodes w B A l) :
    Calls Try.prog 28 #[.slice A n cap, .int .i64 i, .int .i64 least] w fun e w' => e = .returned (.int .i64 (wrongF (dat l) i least)) ∧ Below w.heap.size w w' := by
  have CK := pCheck_any A cap n l hn hsz w B hB hs
  obtain ⟨r, hr⟩ : ∃ r, r = wrongF (dat l) i least := ⟨_, rfl⟩
  rw [← hr]
  unfold wrongF at hr
  rw [dat_len, ← hn] at hr
  have hnn : n ≤ 2932031007403 := by have := hsz.n; omega
  clear hn hsz hs hB
  have hT : treeB (dat l) = ((checkF (dat l)).2 == 0) := rfl
  rw [hT] at hr
  generalize (checkF (dat l)).1 = x at CK
  generalize (checkF (dat l)).2 = y at CK hr
  clear hT
  have CK := Lib.hid CK
  by_cases hy : y = 0
  case neg =>
    have e1 : (y == 0) = false := by rw [beq_eq_false_iff_ne]; exact hy
    obtain rfl : r = 40 := by rw [hr, e1]; rfl
    clear hr
    go_enter Try.func28, Try.ntmps28
    go_wp2_with (first
      | (go_at_call 51; refine CK.out.mono ?_; rintro e w1 ⟨rfl, hb1⟩
         have HB1 := Lib.hid hb1
         clear hb1)
      | fail)
    go_ret
    exact ⟨rfl, HB1.out⟩
  subst hy
  by_cases h1 : i < least
  · obtain rfl : r = 1 := by rw [hr]; simp [h1]
    have d1 : decide (i < least) = true := decide_eq_true h1
    clear hr
    go_enter Try.func28, Try.ntmps28
    go_wp2_with (first
      | (go_at_call 51; refine CK.out.mono ?_; rintro e w1 ⟨rfl, hb1⟩
         have HB1 := Lib.hid hb1
         clear hb1)
      | fail)
    go_ret
    exact ⟨rfl, HB1.out⟩
  have d1 : decide (i < least) = false := decide_eq_false h1
  by_cases h2 : (n : Int) ≤ i
  · obtain rfl : r = 1 := by rw [hr]; simp [h2]
    have d2 : decide ((n : Int) ≤ i) = true := decide_eq_true h2
    clear hr
    go_enter Try.func28, Try.ntmps28
    go_wp2_with (first
      | (go_at_call 51; refine CK.out.mono ?_; rintro e w1 ⟨rfl, hb1⟩
         have HB1 := Lib.hid hb1
         clear hb1)
      | fail)
    go_ret
    exact ⟨rfl, HB1.out⟩
  · obtain rfl : r = 0 := by rw [hr]; simp [h1, h2]
    have d2 : decide ((n : Int) ≤ i) = false := decide_eq_false h2
    clear hr
    go_enter Try.func28, Try.ntmps28
    go_wp2_with (first
      | (go_at_call 51; refine CK.out.mono ?_; rintro e w1 ⟨rfl, hb1⟩
         have HB1 := Lib.hid hb1
         clear hb1)
      | fail)
    go_ret
    exact ⟨rfl, HB1.out⟩
end Go.Proofs.Ytndocngkganpdaa
