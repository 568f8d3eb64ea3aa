/- The key of a kid. -/
import Derived.Test.YtmdnbajbfnhecaaDoorProps
import Derived.DeepKeys4
set_option linter.unusedVariables false
namespace Go.Proofs.YtmdnbajbfnhecaaDoor
open Go.RowKit
theorem Tryd.laid_out : laidOutB Tryd.prog = true := by kernel_rfl
theorem Tryd.row93' : (93 : TypeId) < Tryd.prog.types.size := of_decide_eq_true (by kernel_rfl)
theorem Tryd.wide93 : (match Tryd.prog.underlying 93 with | some (.array _ _) | some (.struct _) => true | _ => false) = true := by kernel_rfl
set_option maxRecDepth 100000 in
theorem kid_law : Go.Maps.Keyed Tryd.prog 93 := Go.Maps.Keyed.of_law (deep_law_laid Tryd.laid_out (m := 2) (by omega) Tryd.row93' (by kernel_rfl) Tryd.wide93)
theorem Tryd.keyType93 : Tryd.prog.keyType 93 = true := by kernel_rfl
theorem Tryd.cells93 : Tryd.prog.cellsOf 93 = 2 := by kernel_rfl
theorem Tryd.cells3 : Tryd.prog.cellsOf 3 = 1 := by kernel_rfl
theorem Tryd.cells9 : Tryd.prog.cellsOf 9 = 1 := by kernel_rfl
set_option maxRecDepth 100000 in
theorem kid_key (P : Int) (s : ByteArray) (hw : (Lit.int .i64 P).wf = true) (hs : s.size ≤ maxLen) : ∃ kl, keyOf Tryd.prog 93 (.agg #[.int .i64 P, .string s]) = some kl := by
  obtain ⟨m, hm⟩ : ∃ m, Tryd.prog.types.size = m + 1 := ⟨Tryd.prog.types.size - 1, (Nat.succ_pred_eq_of_pos (Nat.lt_of_le_of_lt (Nat.zero_le _) Tryd.row93')).symm⟩
  unfold keyOf
  rw [Tryd.underlying93]
  simp only [Tryd.keyType93, Value.formed, Tryd.underlying93, Tryd.cells93, hm]
  simp [Program.keyLits, Tryd.underlying93, Tryd.underlying3, Tryd.underlying9, Value.cells, Tryd.cells93, Tryd.cells3, Tryd.cells9, hw, hs]
end Go.Proofs.YtmdnbajbfnhecaaDoor
