/- The document's has and above: the contracts. -/
import Derived.Test.YtndocngkganpdaaName
import Derived.Test.YtndocngkganpdaaPush
set_option linter.unusedVariables false
namespace Go.Proofs.Ytndocngkganpdaa
open Go.RowKit
theorem Try.info3 : (Try.prog.info? 3).map (fun i => (i.zero, i.size, i.bytes)) = some (some (.int .i64 0), 1, 8) := by kernel_rfl
theorem contains_take (zs : List Int) (k : Nat) (x : Int) (h : k < zs.length) : (zs.take (k + 1)).contains x = ((zs.take k).contains x || (zs[k] == x)) := by
  rw [List.take_succ_eq_append_getElem h, Bool.eq_iff_iff]
  simp only [List.contains_iff_mem, List.mem_append, List.mem_singleton, Bool.or_eq_true, beq_iff_eq]
  exact or_congr Iff.rfl eq_comm
theorem contains_hit (zs : List Int) (k : Nat) (x : Int) (h : k < zs.length) (e : zs[k] = x) : zs.contains x = true := by
  rw [List.contains_iff_mem, ← e]
  exact List.getElem_mem h
theorem par_get (l : List Nm) {k : Nat} (hk : k < l.length) : parAt (dat l) k = l[k].d.p := by
  unfold parAt
  rw [Int.toNat_natCast, List.getElem?_eq_getElem (by rw [dat_len]; exact hk)]
  simp [dat]
end Go.Proofs.Ytndocngkganpdaa
