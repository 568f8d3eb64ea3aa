/- The document's Check: the contract. -/
import Derived.Test.YtndocngkganpdaaRefC
set_option linter.unusedVariables false
namespace Go.Proofs.Ytndocngkganpdaa
open Go.RowKit
/-- What memory holds of a list of nodes. -/
structure Sized (l : List Nm) : Prop where
  n : l.length * 48 ≤ 140737488355328
  small : Small (dat l)
  props : ∀ x ∈ l, x.d.ps.length * 32 ≤ 140737488355328
  wf : ∀ x ∈ l, (Lit.int .i64 x.d.p).wf = true
end Go.Proofs.Ytndocngkganpdaa
