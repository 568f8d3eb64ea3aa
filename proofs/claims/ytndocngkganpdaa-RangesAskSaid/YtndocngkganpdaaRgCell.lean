/- cells.One: the contract. -/
import Derived.Test.YtndocngkganpdaaMem
import Derived.Test.YtndocngkganpdaaRgLaw
import Derived.Test.YtndocngkganpdaaProg
import Derived.LoopTactic
import Derived.LoopN
import Derived.Laws.BitsAllLaws
set_option linter.unusedVariables false
namespace Go.Proofs.Ytndocngkganpdaa
open Go.RowKit
theorem or_byte (a b : Nat) (hb : b < 256) : (256 * a ||| b) = 256 * a + b := by
  have := Nat.two_pow_add_eq_or_of_lt (i := 8) (b := b) (by simpa using hb) a
  simpa using this.symm
theorem or32 (a b : Nat) (ha : a < 16777216) (hb : b < 256) : bits .or .u32 ((a : Int) * 256) (b : Int) = ((256 * a + b : Nat) : Int) := by
  have h := u32_or_nat (256 * a) b (by omega) (by omega)
  rw [or_byte a b hb] at h
  rw [← h]
  congr 1
  omega
theorem or64 (a b : Nat) (ha : a < 72057594037927936) (hb : b < 256) : bits .or .u64 ((a : Int) * 256) (b : Int) = ((256 * a + b : Nat) : Int) := by
  have h := u64_or_nat (256 * a) b (by omega) (by omega)
  rw [or_byte a b hb] at h
  rw [← h]
  congr 1
  omega
theorem arr4 (a b c d : Value) : (∀ w, (Instr.index 115 (.agg #[a, b, c, d]) (.int .i64 0)).run Try.prog w = .ok a w) ∧ (∀ w, (Instr.index 115 (.agg #[a, b, c, d]) (.int .i64 1)).run Try.prog w = .ok b w) ∧ (∀ w, (Instr.index 115 (.agg #[a, b, c, d]) (.int .i64 2)).run Try.prog w = .ok c w) ∧ (∀ w, (Instr.index 115 (.agg #[a, b, c, d]) (.int .i64 3)).run Try.prog w = .ok d w) := by
  refine ⟨?_, ?_, ?_, ?_⟩
  all_goals
    intro w
    unfold Instr.index
    simp [run_underlying Try.underlying115, go_sem, Try.sizeOf5, part]
set_option maxRecDepth 100000 in
set_option maxHeartbeats 16000000 in
theorem word_any (b0 b1 b2 b3 : Nat) (h0 : b0 < 256) (h1 : b1 < 256) (h2 : b2 < 256) (h3 : b3 < 256) (w : World) :
    Calls Try.prog 76 #[.agg #[.int .u8 b0, .int .u8 b1, .int .u8 b2, .int .u8 b3]] w fun e w' => e = .returned (.int .u32 (num [b0, b1, b2, b3] : Nat)) ∧ Below w.heap.size w w' := by
  obtain ⟨i0, i1, i2, i3⟩ := arr4 (.int .u8 b0) (.int .u8 b1) (.int .u8 b2) (.int .u8 b3)
  have e1 : bits .or .u32 0 (b0 : Int) = (b0 : Int) := by
    have h := u32_or_nat 0 b0 (by omega) (by omega)
    rw [Nat.zero_or] at h
    exact h
  have e2 := or32 b0 b1 (by omega) h1
  have e3 := or32 (256 * b0 + b1) b2 (by omega) h2
  have e4 := or32 (256 * (256 * b0 + b1) + b2) b3 (by omega) h3
  have hn : num [b0, b1, b2, b3] = 256 * (256 * (256 * b0 + b1) + b2) + b3 := by simp [num]
  rw [← hn] at e4
  have hv : num [b0, b1, b2, b3] < 4294967296 := by omega
  clear hn
  generalize num [b0, b1, b2, b3] = N at e4 hv ⊢
  have q2 : 256 * (256 * b0 + b1) + b2 < 16777216 := by omega
  have q1 : 256 * b0 + b1 < 65536 := by omega
  generalize 256 * (256 * b0 + b1) + b2 = n2 at e3 e4 q2
  generalize 256 * b0 + b1 = n1 at e2 e3 q1
  go_enter Try.func76, Try.ntmps76
  go_wp2_with fail
  refine wp_loop_rounds 5 ?_
  rw [rounds_succ]
  go_wp2_with fail
  rw [rounds_succ]
  go_wp2_with fail
  rw [rounds_succ]
  go_wp2_with fail
  rw [rounds_succ]
  go_wp2_with fail
  rw [rounds_succ]
  go_wp2_with fail
  go_ret
  exact ⟨rfl, (Below.refl _ w).alloc (Nat.le_refl _) _⟩
end Go.Proofs.Ytndocngkganpdaa
