/- The key of a kid. -/
import Derived.Test.YtmdnbajbfnhecaaGreatDoorProps
import Derived.DeepKeys4
set_option linter.unusedVariables false
namespace Go.Proofs.YtmdnbajbfnhecaaGreatDoor
open Go.RowKit
theorem Tryz.laid_out : laidOutB Tryz.prog = true := by kernel_rfl
theorem Tryz.row101' : (101 : TypeId) < Tryz.prog.types.size := of_decide_eq_true (by kernel_rfl)
theorem Tryz.wide93 : (match Tryz.prog.underlying 101 with | some (.array _ _) | some (.struct _) => true | _ => false) = true := by kernel_rfl
set_option maxRecDepth 100000 in
theorem kid_law : Go.Maps.Keyed Tryz.prog 101 := Go.Maps.Keyed.of_law (deep_law_laid Tryz.laid_out (m := 2) (by omega) Tryz.row101' (by kernel_rfl) Tryz.wide93)
theorem Tryz.keyType93 : Tryz.prog.keyType 101 = true := by kernel_rfl
theorem Tryz.cells101 : Tryz.prog.cellsOf 101 = 2 := by kernel_rfl
theorem Tryz.cells3 : Tryz.prog.cellsOf 3 = 1 := by kernel_rfl
theorem Tryz.cells9 : Tryz.prog.cellsOf 9 = 1 := by kernel_rfl
set_option maxRecDepth 100000 in
theorem kid_key (P : Int) (s : ByteArray) (hw : (Lit.int .i64 P).wf = true) (hs : s.size ≤ maxLen) : ∃ kl, keyOf Tryz.prog 101 (.agg #[.int .i64 P, .string s]) = some kl := by
  obtain ⟨m, hm⟩ : ∃ m, Tryz.prog.types.size = m + 1 := ⟨Tryz.prog.types.size - 1, (Nat.succ_pred_eq_of_pos (Nat.lt_of_le_of_lt (Nat.zero_le _) Tryz.row101')).symm⟩
  unfold keyOf
  rw [Tryz.underlying101]
  simp only [Tryz.keyType93, Value.formed, Tryz.underlying101, Tryz.cells101, hm]
  simp [Program.keyLits, Tryz.underlying101, Tryz.underlying3, Tryz.underlying9, Value.cells, Tryz.cells101, Tryz.cells3, Tryz.cells9, hw, hs]
end Go.Proofs.YtmdnbajbfnhecaaGreatDoor
