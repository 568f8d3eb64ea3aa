/- The key of a kid. -/
import Derived.Test.YtndocngkganpdaaProps
import Derived.DeepKeys4
set_option linter.unusedVariables false
namespace Go.Proofs.Ytndocngkganpdaa
open Go.RowKit
theorem Try.laid_out : laidOutB Try.prog = true := by kernel_rfl
theorem Try.row108' : (108 : TypeId) < Try.prog.types.size := of_decide_eq_true (by kernel_rfl)
theorem Try.wide108 : (match Try.prog.underlying 108 with | some (.array _ _) | some (.struct _) => true | _ => false) = true := by kernel_rfl
set_option maxRecDepth 100000 in
theorem kid_law : Go.Maps.Keyed Try.prog 108 := Go.Maps.Keyed.of_law (deep_law_laid Try.laid_out (m := 2) (by omega) Try.row108' (by kernel_rfl) Try.wide108)
theorem Try.keyType108 : Try.prog.keyType 108 = true := by kernel_rfl
theorem Try.cells108 : Try.prog.cellsOf 108 = 2 := by kernel_rfl
theorem Try.cells3 : Try.prog.cellsOf 3 = 1 := by kernel_rfl
theorem Try.cells9 : Try.prog.cellsOf 9 = 1 := by kernel_rfl
set_option maxRecDepth 100000 in
theorem kid_key (P : Int) (s : ByteArray) (hw : (Lit.int .i64 P).wf = true) (hs : s.size ≤ maxLen) : ∃ kl, keyOf Try.prog 108 (.agg #[.int .i64 P, .string s]) = some kl := by
  obtain ⟨m, hm⟩ : ∃ m, Try.prog.types.size = m + 1 := ⟨Try.prog.types.size - 1, (Nat.succ_pred_eq_of_pos (Nat.lt_of_le_of_lt (Nat.zero_le _) Try.row108')).symm⟩
  unfold keyOf
  rw [Try.underlying108]
  simp only [Try.keyType108, Value.formed, Try.underlying108, Try.cells108, hm]
  simp [Program.keyLits, Try.underlying108, Try.underlying3, Try.underlying9, Value.cells, Try.cells108, Try.cells3, Try.cells9, hw, hs]
end Go.Proofs.Ytndocngkganpdaa
