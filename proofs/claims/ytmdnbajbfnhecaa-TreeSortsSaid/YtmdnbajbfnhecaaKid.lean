/- The key of a kid. -/
import Derived.Test.YtmdnbajbfnhecaaProps
import Derived.DeepKeys4
set_option linter.unusedVariables false
namespace Go.Proofs.Ytmdnbajbfnhecaa
open Go.RowKit
theorem Try.laid_out : laidOutB Try.prog = true := by kernel_rfl
theorem Try.row64' : (64 : TypeId) < Try.prog.types.size := of_decide_eq_true (by kernel_rfl)
theorem Try.wide64 : (match Try.prog.underlying 64 with | some (.array _ _) | some (.struct _) => true | _ => false) = true := by kernel_rfl
set_option maxRecDepth 100000 in
theorem kid_law : Go.Maps.Keyed Try.prog 64 := Go.Maps.Keyed.of_law (deep_law_laid Try.laid_out (m := 2) (by omega) Try.row64' (by kernel_rfl) Try.wide64)
theorem Try.keyType64 : Try.prog.keyType 64 = true := by kernel_rfl
theorem Try.cells64 : Try.prog.cellsOf 64 = 2 := by kernel_rfl
theorem Try.cells3 : Try.prog.cellsOf 3 = 1 := by kernel_rfl
theorem Try.cells9 : Try.prog.cellsOf 9 = 1 := by kernel_rfl
theorem kid_key (P : Int) (s : ByteArray) (hw : (Lit.int .i64 P).wf = true) (hs : s.size ≤ maxLen) : ∃ kl, keyOf Try.prog 64 (.agg #[.int .i64 P, .string s]) = some kl := by
  obtain ⟨m, hm⟩ : ∃ m, Try.prog.types.size = m + 1 := ⟨Try.prog.types.size - 1, (Nat.succ_pred_eq_of_pos (Nat.lt_of_le_of_lt (Nat.zero_le _) Try.row64')).symm⟩
  unfold keyOf
  rw [Try.underlying64]
  simp only [Try.keyType64, Value.formed, Try.underlying64, Try.cells64, hm]
  simp [Program.keyLits, Try.underlying64, Try.underlying3, Try.underlying9, Value.cells, Try.cells64, Try.cells3, Try.cells9, hw, hs]
end Go.Proofs.Ytmdnbajbfnhecaa
