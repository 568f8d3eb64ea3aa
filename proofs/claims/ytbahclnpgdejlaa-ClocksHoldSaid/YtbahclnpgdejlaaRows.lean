/-
  No cell of these rows narrows 'for every input' (looked for: loops, veiled, ifaces, maps, wideKeys, modest, calm, conditions, laid).
  DERIVED. THE GIVEN ROWS OF THIS SEAT. 4 by the template 'for every input the law returns true; each argument reads behind the call as it read before'; 0 by the template 'total and deterministic' (their statements: YtbahclnpgdejlaaTotals.lean).
  GIVEN WITH THE SEED: the statements are not yours to turn. If you find one false, say at which input.
  Laid BY PROGRAM, IN A SANDBOX (cutbox-rows.mjs): the forced cells as the released guide's own fill.sh prints them over the translation b506d6cf437766d5… (all of the seat's roots in one cut). By AI agents, Wed Nov 11 2026. No macro, syntax, notation, axiom, sorry.
-/
import Derived.Test.YtbahclnpgdejlaaChecked
import GoSem.Claim
import GoSem.ClaimJoined
import GoSem.ClaimMapViews
import Derived.JoinedTies
import Derived.KernelRfl
namespace Go.Proofs.Ytbahclnpgdejlaa
/- THE CELL 'sum', in the pinned program and in every row, IS THE sha256 OF THE DUMP (.gsa) THAT YtbahclnpgdejlaaProg.lean LOADS. Nothing in Lean hashes anything: it is a label: what it is worth is what the hold of that sum in a sandbox is worth. -/
noncomputable def Try.pinned : Pinned := { name := "ytbahclnpgdejlaa", sum := "b506d6cf437766d563e2b5eafcc5bccbf6eec574391c6acb28bd533de388276b", checked := Try.checked }
namespace Rows
def none {H : Type} : Left H := { results := [], args := [] }

/-- 'reveillelaw18.ClocksNear': WHATEVER THE INPUT: true; the input reads as it did. -/
def clocksNearSpec : ChangeSpec := { name := "clocksNear", fn := fun _ => fun
  | [d] => { results := [.lit (.bool true)], args := [d] }
  | _ => none }
def clocksNearRow : OpenClaim := { program := "ytbahclnpgdejlaa", sum := "b506d6cf437766d563e2b5eafcc5bccbf6eec574391c6acb28bd533de388276b", func := "reveille/reveillelaw18.ClocksNear", spec := "clocksNear", unfollowed := true, recurses := true, apart := false }
def ClocksNearSaid : Prop := clocksNearRow.holds Try.pinned (OpenSpec.ofChange clocksNearSpec)

/-- ITS FALSE NEIGHBOUR: 'it returns false'. Refute it at one input. -/
def clocksNearWrong : ChangeSpec := { name := "clocksNear", fn := fun _ => fun
  | [d] => { results := [.lit (.bool false)], args := [d] }
  | _ => none }
def ClocksNearWrongFalsely : Prop := clocksNearRow.holds Try.pinned (OpenSpec.ofChange clocksNearWrong)

/-- 'reveillelaw18.ClocksRest': WHATEVER THE INPUT: true; the input reads as it did. -/
def clocksRestSpec : ChangeSpec := { name := "clocksRest", fn := fun _ => fun
  | [d1, d2, d3] => { results := [.lit (.bool true)], args := [d1, d2, d3] }
  | _ => none }
def clocksRestRow : OpenClaim := { program := "ytbahclnpgdejlaa", sum := "b506d6cf437766d563e2b5eafcc5bccbf6eec574391c6acb28bd533de388276b", func := "reveille/reveillelaw18.ClocksRest", spec := "clocksRest", unfollowed := true, recurses := true, apart := false }
def ClocksRestSaid : Prop := clocksRestRow.holds Try.pinned (OpenSpec.ofChange clocksRestSpec)

/-- ITS FALSE NEIGHBOUR: 'it returns false'. Refute it at one input. -/
def clocksRestWrong : ChangeSpec := { name := "clocksRest", fn := fun _ => fun
  | [d1, d2, d3] => { results := [.lit (.bool false)], args := [d1, d2, d3] }
  | _ => none }
def ClocksRestWrongFalsely : Prop := clocksRestRow.holds Try.pinned (OpenSpec.ofChange clocksRestWrong)

/-- 'reveillelaw18.ClocksMove': WHATEVER THE INPUT: true; the input reads as it did. -/
def clocksMoveSpec : ChangeSpec := { name := "clocksMove", fn := fun _ => fun
  | [d1, d2] => { results := [.lit (.bool true)], args := [d1, d2] }
  | _ => none }
def clocksMoveRow : OpenClaim := { program := "ytbahclnpgdejlaa", sum := "b506d6cf437766d563e2b5eafcc5bccbf6eec574391c6acb28bd533de388276b", func := "reveille/reveillelaw18.ClocksMove", spec := "clocksMove", unfollowed := true, recurses := true, apart := false }
def ClocksMoveSaid : Prop := clocksMoveRow.holds Try.pinned (OpenSpec.ofChange clocksMoveSpec)

/-- ITS FALSE NEIGHBOUR: 'it returns false'. Refute it at one input. -/
def clocksMoveWrong : ChangeSpec := { name := "clocksMove", fn := fun _ => fun
  | [d1, d2] => { results := [.lit (.bool false)], args := [d1, d2] }
  | _ => none }
def ClocksMoveWrongFalsely : Prop := clocksMoveRow.holds Try.pinned (OpenSpec.ofChange clocksMoveWrong)

/-- 'reveillelaw18.ClocksHold': WHATEVER THE INPUT: true; the input reads as it did. -/
def clocksHoldSpec : ChangeSpec := { name := "clocksHold", fn := fun _ => fun
  | [d1, d2] => { results := [.lit (.bool true)], args := [d1, d2] }
  | _ => none }
def clocksHoldRow : OpenClaim := { program := "ytbahclnpgdejlaa", sum := "b506d6cf437766d563e2b5eafcc5bccbf6eec574391c6acb28bd533de388276b", func := "reveille/reveillelaw18.ClocksHold", spec := "clocksHold", unfollowed := true, recurses := true, apart := false }
def ClocksHoldSaid : Prop := clocksHoldRow.holds Try.pinned (OpenSpec.ofChange clocksHoldSpec)

/-- ITS FALSE NEIGHBOUR: 'it returns false'. Refute it at one input. -/
def clocksHoldWrong : ChangeSpec := { name := "clocksHold", fn := fun _ => fun
  | [d1, d2] => { results := [.lit (.bool false)], args := [d1, d2] }
  | _ => none }
def ClocksHoldWrongFalsely : Prop := clocksHoldRow.holds Try.pinned (OpenSpec.ofChange clocksHoldWrong)

/- THE SECOND FORM. 'bulk': how many values and letters a reading holds, each counted each time it is reached (what is shared counts as often as it is met; a slice's spare places count too). A statement '..UptoSaid' is the law's where the arguments, and the package variables that the reading takes, are together of bulk at most 1048576: NARROWER than '..Said'. Prove '..Said' where nothing that the law and all that it calls make is longer than what came in: it says more and counts as full. Else prove '..UptoSaid'. A law counts once. -/
mutual
def uptoBulk {H : Type} : DataW H → Nat
  | .lit (.string bytes) => bytes.length + 1
  | .lit _ => 1
  | .nil => 1
  | .ptr d => uptoBulk d + 1
  | .slice elems spare => uptoBulkAll elems + uptoBulkAll spare + 1
  | .agg parts => uptoBulkAll parts + 1
  | .iface _ d => uptoBulk d + 1
  | .map entries => uptoBulkEntries entries + 1
  | .held _ => 1
def uptoBulkAll {H : Type} : List (DataW H) → Nat
  | [] => 0
  | d :: r => uptoBulk d + uptoBulkAll r
def uptoBulkEntries {H : Type} : List (Lit × DataW H) → Nat
  | [] => 0
  | x :: r => uptoBulkEntry x + uptoBulkEntries r
def uptoBulkEntry {H : Type} : Lit × DataW H → Nat
  | (.string bytes, d) => bytes.length + uptoBulk d + 1
  | (_, d) => uptoBulk d + 1
 end
def uptoSmall : (H : Type) → List (DataW H) → Bool := fun _ ds => decide (uptoBulkAll ds ≤ 1048576)
def OpenSpec.upto (s : _root_.Go.ChangeSpec) : _root_.Go.OpenSpec := { _root_.Go.OpenSpec.ofChange s with cond := some uptoSmall }

/-- 'reveillelaw18.ClocksNear', WHERE WHAT IT READS IS OF BULK AT MOST 1048576: true; the input reads as it did. -/
def clocksNearUptoRow : OpenClaim := { program := "ytbahclnpgdejlaa", sum := "b506d6cf437766d563e2b5eafcc5bccbf6eec574391c6acb28bd533de388276b", func := "reveille/reveillelaw18.ClocksNear", spec := "clocksNear", unfollowed := true, recurses := true, apart := false, narrowed := true }
def ClocksNearUptoSaid : Prop := clocksNearUptoRow.holds Try.pinned (OpenSpec.upto clocksNearSpec)

/-- 'reveillelaw18.ClocksRest', WHERE WHAT IT READS IS OF BULK AT MOST 1048576: true; the input reads as it did. -/
def clocksRestUptoRow : OpenClaim := { program := "ytbahclnpgdejlaa", sum := "b506d6cf437766d563e2b5eafcc5bccbf6eec574391c6acb28bd533de388276b", func := "reveille/reveillelaw18.ClocksRest", spec := "clocksRest", unfollowed := true, recurses := true, apart := false, narrowed := true }
def ClocksRestUptoSaid : Prop := clocksRestUptoRow.holds Try.pinned (OpenSpec.upto clocksRestSpec)

/-- 'reveillelaw18.ClocksMove', WHERE WHAT IT READS IS OF BULK AT MOST 1048576: true; the input reads as it did. -/
def clocksMoveUptoRow : OpenClaim := { program := "ytbahclnpgdejlaa", sum := "b506d6cf437766d563e2b5eafcc5bccbf6eec574391c6acb28bd533de388276b", func := "reveille/reveillelaw18.ClocksMove", spec := "clocksMove", unfollowed := true, recurses := true, apart := false, narrowed := true }
def ClocksMoveUptoSaid : Prop := clocksMoveUptoRow.holds Try.pinned (OpenSpec.upto clocksMoveSpec)

/-- 'reveillelaw18.ClocksHold', WHERE WHAT IT READS IS OF BULK AT MOST 1048576: true; the input reads as it did. -/
def clocksHoldUptoRow : OpenClaim := { program := "ytbahclnpgdejlaa", sum := "b506d6cf437766d563e2b5eafcc5bccbf6eec574391c6acb28bd533de388276b", func := "reveille/reveillelaw18.ClocksHold", spec := "clocksHold", unfollowed := true, recurses := true, apart := false, narrowed := true }
def ClocksHoldUptoSaid : Prop := clocksHoldUptoRow.holds Try.pinned (OpenSpec.upto clocksHoldSpec)

end Rows
end Go.Proofs.Ytbahclnpgdejlaa
