/- node and wrong: the contracts. -/
import Derived.Test.YtndocngkganpdaaT3Tree
import Derived.Test.YtndocngkganpdaaRgNo
set_option linter.unusedVariables false
namespace Go.Proofs.Ytndocngkganpdaa
open Go.RowKit
set_option maxRecDepth 100000 in
set_option maxHeartbeats 16000000 in
theorem wrong_true (A : Option Addr) (cap n : Nat) (l : List Nm) (hn : n = l.length) (hsz : Sized l) (i : Int)  (w : World) (B : Nat) (hB : B ≤ w.heap.size) (hs : Nodes w B A l) :
    Calls Try.prog 54 #[.slice A n cap, .int .i64 i, .bool true] w fun e w' => e = .returned (.int .i64 (wrongF (dat l) i 0)) ∧ Below w.heap.size w w' := by
  have CK := tree3_any A cap n l hn hsz w B hB hs
  obtain ⟨r, hr⟩ : ∃ r, r = wrongF (dat l) i 0 := ⟨_, rfl⟩
  rw [← hr]
  unfold wrongF at hr
  rw [dat_len, ← hn] at hr
  have hnn : n ≤ 2932031007403 := by have := hsz.n; omega
  clear hn hsz hs hB
  have CK := Lib.hid CK
  cases hT : treeB (dat l) with
  | false =>
    rw [hT] at hr
    have C2 := CK.out
    rw [hT] at C2
    have CK := Lib.hid C2
    obtain rfl : r = 40 := by rw [hr]; rfl
    clear hr hT C2
    go_enter Try.func54, Try.ntmps54
    go_wp2_with (first
      | (go_at_call 7; refine CK.out.mono ?_; rintro e w1 ⟨rfl, hb1⟩
         have HB1 := Lib.hid hb1
         clear hb1)
      | fail)
    go_ret
    exact ⟨rfl, HB1.out⟩
  | true =>
    rw [hT] at hr
    have C2 := CK.out
    rw [hT] at C2
    have CK := Lib.hid C2
    clear hT C2
    by_cases h1 : i < 0
    · obtain rfl : r = 1 := by rw [hr, if_pos rfl, if_pos (Or.inl (by omega))]
      have d1 : decide (i < 0) = true := decide_eq_true h1
      clear hr
      go_enter Try.func54, Try.ntmps54
      go_wp2_with (first
        | (go_at_call 7; refine CK.out.mono ?_; rintro e w1 ⟨rfl, hb1⟩
           have HB1 := Lib.hid hb1
           clear hb1)
        | fail)
      go_ret
      exact ⟨rfl, HB1.out⟩
    have d1 : decide (i < 0) = false := decide_eq_false h1
    by_cases h2 : (n : Int) ≤ i
    · obtain rfl : r = 1 := by rw [hr, if_pos rfl, if_pos (Or.inr h2)]
      have d2 : decide ((n : Int) ≤ i) = true := decide_eq_true h2
      clear hr
      go_enter Try.func54, Try.ntmps54
      go_wp2_with (first
        | (go_at_call 7; refine CK.out.mono ?_; rintro e w1 ⟨rfl, hb1⟩
           have HB1 := Lib.hid hb1
           clear hb1)
        | fail)
      go_ret
      exact ⟨rfl, HB1.out⟩
    have d2 : decide ((n : Int) ≤ i) = false := decide_eq_false h2
    by_cases h3 : i = 0
    · subst h3
      obtain rfl : r = 0 := by rw [hr, if_pos rfl]; first | (simp; done) | (simp; omega)
      clear hr
      go_enter Try.func54, Try.ntmps54
      go_wp2_with (first
        | (go_at_call 7; refine CK.out.mono ?_; rintro e w1 ⟨rfl, hb1⟩
           have HB1 := Lib.hid hb1
           clear hb1)
        | fail)
      go_ret
      exact ⟨rfl, HB1.out⟩
    · have e3 : (i == 0) = false := by rw [beq_eq_false_iff_ne]; exact h3
      obtain rfl : r = 0 := by rw [hr, if_pos rfl, if_neg (by omega)]
      clear hr
      go_enter Try.func54, Try.ntmps54
      go_wp2_with (first
        | (go_at_call 7; refine CK.out.mono ?_; rintro e w1 ⟨rfl, hb1⟩
           have HB1 := Lib.hid hb1
           clear hb1)
        | fail)
      go_ret
      exact ⟨rfl, HB1.out⟩
set_option maxRecDepth 100000 in
set_option maxHeartbeats 16000000 in
theorem wrong_false (A : Option Addr) (cap n : Nat) (l : List Nm) (hn : n = l.length) (hsz : Sized l) (i : Int)  (w : World) (B : Nat) (hB : B ≤ w.heap.size) (hs : Nodes w B A l) :
    Calls Try.prog 54 #[.slice A n cap, .int .i64 i, .bool false] w fun e w' => e = .returned (.int .i64 (wrongF (dat l) i 1)) ∧ Below w.heap.size w w' := by
  have CK := tree3_any A cap n l hn hsz w B hB hs
  obtain ⟨r, hr⟩ : ∃ r, r = wrongF (dat l) i 1 := ⟨_, rfl⟩
  rw [← hr]
  unfold wrongF at hr
  rw [dat_len, ← hn] at hr
  have hnn : n ≤ 2932031007403 := by have := hsz.n; omega
  clear hn hsz hs hB
  have CK := Lib.hid CK
  cases hT : treeB (dat l) with
  | false =>
    rw [hT] at hr
    have C2 := CK.out
    rw [hT] at C2
    have CK := Lib.hid C2
    obtain rfl : r = 40 := by rw [hr]; rfl
    clear hr hT C2
    go_enter Try.func54, Try.ntmps54
    go_wp2_with (first
      | (go_at_call 7; refine CK.out.mono ?_; rintro e w1 ⟨rfl, hb1⟩
         have HB1 := Lib.hid hb1
         clear hb1)
      | fail)
    go_ret
    exact ⟨rfl, HB1.out⟩
  | true =>
    rw [hT] at hr
    have C2 := CK.out
    rw [hT] at C2
    have CK := Lib.hid C2
    clear hT C2
    by_cases h1 : i < 0
    · obtain rfl : r = 1 := by rw [hr, if_pos rfl, if_pos (Or.inl (by omega))]
      have d1 : decide (i < 0) = true := decide_eq_true h1
      clear hr
      go_enter Try.func54, Try.ntmps54
      go_wp2_with (first
        | (go_at_call 7; refine CK.out.mono ?_; rintro e w1 ⟨rfl, hb1⟩
           have HB1 := Lib.hid hb1
           clear hb1)
        | fail)
      go_ret
      exact ⟨rfl, HB1.out⟩
    have d1 : decide (i < 0) = false := decide_eq_false h1
    by_cases h2 : (n : Int) ≤ i
    · obtain rfl : r = 1 := by rw [hr, if_pos rfl, if_pos (Or.inr h2)]
      have d2 : decide ((n : Int) ≤ i) = true := decide_eq_true h2
      clear hr
      go_enter Try.func54, Try.ntmps54
      go_wp2_with (first
        | (go_at_call 7; refine CK.out.mono ?_; rintro e w1 ⟨rfl, hb1⟩
           have HB1 := Lib.hid hb1
           clear hb1)
        | fail)
      go_ret
      exact ⟨rfl, HB1.out⟩
    have d2 : decide ((n : Int) ≤ i) = false := decide_eq_false h2
    by_cases h3 : i = 0
    · subst h3
      obtain rfl : r = 1 := by rw [hr, if_pos rfl]; first | (simp; done) | (simp; omega)
      clear hr
      go_enter Try.func54, Try.ntmps54
      go_wp2_with (first
        | (go_at_call 7; refine CK.out.mono ?_; rintro e w1 ⟨rfl, hb1⟩
           have HB1 := Lib.hid hb1
           clear hb1)
        | fail)
      go_ret
      exact ⟨rfl, HB1.out⟩
    · have e3 : (i == 0) = false := by rw [beq_eq_false_iff_ne]; exact h3
      obtain rfl : r = 0 := by rw [hr, if_pos rfl, if_neg (by omega)]
      clear hr
      go_enter Try.func54, Try.ntmps54
      go_wp2_with (first
        | (go_at_call 7; refine CK.out.mono ?_; rintro e w1 ⟨rfl, hb1⟩
           have HB1 := Lib.hid hb1
           clear hb1)
        | fail)
      go_ret
      exact ⟨rfl, HB1.out⟩
end Go.Proofs.Ytndocngkganpdaa
