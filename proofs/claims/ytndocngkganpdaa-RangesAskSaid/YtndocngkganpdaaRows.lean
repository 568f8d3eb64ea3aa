/-
  No cell of these rows narrows 'for every input' (looked for: loops, veiled, ifaces, maps, wideKeys, modest, calm, conditions, laid).
  DERIVED. THE GIVEN ROWS OF THIS SEAT. 4 by the template 'for every input the law returns true; each argument reads behind the call as it read before'; 0 by the template 'total and deterministic' (their statements: YtndocngkganpdaaTotals.lean).
  GIVEN WITH THE SEED: the statements are not yours to turn. If you find one false, say at which input.
  Laid BY PROGRAM, IN A SANDBOX (cutbox-rows.mjs): the forced cells as the released guide's own fill.sh prints them over the translation a70819712b278e47… (all of the seat's roots in one cut). By AI agents, Wed Nov 11 2026. No macro, syntax, notation, axiom, sorry.
-/
import Derived.Test.YtndocngkganpdaaChecked
import GoSem.Claim
import GoSem.ClaimJoined
import GoSem.ClaimMapViews
import Derived.JoinedTies
import Derived.KernelRfl
namespace Go.Proofs.Ytndocngkganpdaa
/- THE CELL 'sum', in the pinned program and in every row, IS THE sha256 OF THE DUMP (.gsa) THAT YtndocngkganpdaaProg.lean LOADS. Nothing in Lean hashes anything: it is a label: what it is worth is what the hold of that sum in a sandbox is worth. -/
noncomputable def Try.pinned : Pinned := { name := "ytndocngkganpdaa", sum := "a70819712b278e47bfffaba65cb33622e5a42daa8e5cc88e02aa67e6276fb266", checked := Try.checked }
namespace Rows
def none {H : Type} : Left H := { results := [], args := [] }

/-- 'reveillelaw15.RangesBack': WHATEVER THE INPUT: true; the input reads as it did. -/
def rangesBackSpec : ChangeSpec := { name := "rangesBack", fn := fun _ => fun
  | [d] => { results := [.lit (.bool true)], args := [d] }
  | _ => none }
def rangesBackRow : OpenClaim := { program := "ytndocngkganpdaa", sum := "a70819712b278e47bfffaba65cb33622e5a42daa8e5cc88e02aa67e6276fb266", func := "reveille/reveillelaw15.RangesBack", spec := "rangesBack", inPlace := ["internal/bytealg.IndexByteString"], unfollowed := true, recurses := true, plainKeys := false, apart := false }
def RangesBackSaid : Prop := rangesBackRow.holds Try.pinned (OpenSpec.ofChange rangesBackSpec)

/-- ITS FALSE NEIGHBOUR: 'it returns false'. Refute it at one input. -/
def rangesBackWrong : ChangeSpec := { name := "rangesBack", fn := fun _ => fun
  | [d] => { results := [.lit (.bool false)], args := [d] }
  | _ => none }
def RangesBackWrongFalsely : Prop := rangesBackRow.holds Try.pinned (OpenSpec.ofChange rangesBackWrong)

/-- 'reveillelaw15.RangesSteps': WHATEVER THE INPUT: true; the input reads as it did. -/
def rangesStepsSpec : ChangeSpec := { name := "rangesSteps", fn := fun _ => fun
  | [d1, d2, d3] => { results := [.lit (.bool true)], args := [d1, d2, d3] }
  | _ => none }
def rangesStepsRow : OpenClaim := { program := "ytndocngkganpdaa", sum := "a70819712b278e47bfffaba65cb33622e5a42daa8e5cc88e02aa67e6276fb266", func := "reveille/reveillelaw15.RangesSteps", spec := "rangesSteps", inPlace := ["internal/bytealg.IndexByteString"], unfollowed := true, recurses := true, plainKeys := false, apart := false }
def RangesStepsSaid : Prop := rangesStepsRow.holds Try.pinned (OpenSpec.ofChange rangesStepsSpec)

/-- ITS FALSE NEIGHBOUR: 'it returns false'. Refute it at one input. -/
def rangesStepsWrong : ChangeSpec := { name := "rangesSteps", fn := fun _ => fun
  | [d1, d2, d3] => { results := [.lit (.bool false)], args := [d1, d2, d3] }
  | _ => none }
def RangesStepsWrongFalsely : Prop := rangesStepsRow.holds Try.pinned (OpenSpec.ofChange rangesStepsWrong)

/-- 'reveillelaw15.RangesAsk': WHATEVER THE INPUT: true; the input reads as it did. -/
def rangesAskSpec : ChangeSpec := { name := "rangesAsk", fn := fun _ => fun
  | [d1, d2] => { results := [.lit (.bool true)], args := [d1, d2] }
  | _ => none }
def rangesAskRow : OpenClaim := { program := "ytndocngkganpdaa", sum := "a70819712b278e47bfffaba65cb33622e5a42daa8e5cc88e02aa67e6276fb266", func := "reveille/reveillelaw15.RangesAsk", spec := "rangesAsk", inPlace := ["internal/bytealg.IndexByteString"], unfollowed := true, recurses := true, plainKeys := false, apart := false }
def RangesAskSaid : Prop := rangesAskRow.holds Try.pinned (OpenSpec.ofChange rangesAskSpec)

/-- ITS FALSE NEIGHBOUR: 'it returns false'. Refute it at one input. -/
def rangesAskWrong : ChangeSpec := { name := "rangesAsk", fn := fun _ => fun
  | [d1, d2] => { results := [.lit (.bool false)], args := [d1, d2] }
  | _ => none }
def RangesAskWrongFalsely : Prop := rangesAskRow.holds Try.pinned (OpenSpec.ofChange rangesAskWrong)

/-- 'reveillelaw15.RangesNone': WHATEVER THE INPUT: true; the input reads as it did. -/
def rangesNoneSpec : ChangeSpec := { name := "rangesNone", fn := fun _ => fun
  | [] => { results := [.lit (.bool true)], args := [] }
  | _ => none }
def rangesNoneRow : OpenClaim := { program := "ytndocngkganpdaa", sum := "a70819712b278e47bfffaba65cb33622e5a42daa8e5cc88e02aa67e6276fb266", func := "reveille/reveillelaw15.RangesNone", spec := "rangesNone", inPlace := ["internal/bytealg.IndexByteString"], unfollowed := true, recurses := true, plainKeys := false, apart := false }
def RangesNoneSaid : Prop := rangesNoneRow.holds Try.pinned (OpenSpec.ofChange rangesNoneSpec)

/-- ITS FALSE NEIGHBOUR: 'it returns false'. Refute it at one input. -/
def rangesNoneWrong : ChangeSpec := { name := "rangesNone", fn := fun _ => fun
  | [] => { results := [.lit (.bool false)], args := [] }
  | _ => none }
def RangesNoneWrongFalsely : Prop := rangesNoneRow.holds Try.pinned (OpenSpec.ofChange rangesNoneWrong)

/- THE SECOND FORM. 'bulk': how many values and letters a reading holds, each counted each time it is reached (what is shared counts as often as it is met; a slice's spare places count too). A statement '..UptoSaid' is the law's where the arguments, and the package variables that the reading takes, are together of bulk at most 1048576: NARROWER than '..Said'. Prove '..Said' where nothing that the law and all that it calls make is longer than what came in: it says more and counts as full. Else prove '..UptoSaid'. A law counts once. -/
mutual
def uptoBulk {H : Type} : DataW H → Nat
  | .lit (.string bytes) => bytes.length + 1
  | .lit _ => 1
  | .nil => 1
  | .ptr d => uptoBulk d + 1
  | .slice elems spare => uptoBulkAll elems + uptoBulkAll spare + 1
  | .agg parts => uptoBulkAll parts + 1
  | .iface _ d => uptoBulk d + 1
  | .map entries => uptoBulkEntries entries + 1
  | .held _ => 1
def uptoBulkAll {H : Type} : List (DataW H) → Nat
  | [] => 0
  | d :: r => uptoBulk d + uptoBulkAll r
def uptoBulkEntries {H : Type} : List (Lit × DataW H) → Nat
  | [] => 0
  | x :: r => uptoBulkEntry x + uptoBulkEntries r
def uptoBulkEntry {H : Type} : Lit × DataW H → Nat
  | (.string bytes, d) => bytes.length + uptoBulk d + 1
  | (_, d) => uptoBulk d + 1
 end
def uptoSmall : (H : Type) → List (DataW H) → Bool := fun _ ds => decide (uptoBulkAll ds ≤ 1048576)
def OpenSpec.upto (s : _root_.Go.ChangeSpec) : _root_.Go.OpenSpec := { _root_.Go.OpenSpec.ofChange s with cond := some uptoSmall }

/-- 'reveillelaw15.RangesBack', WHERE WHAT IT READS IS OF BULK AT MOST 1048576: true; the input reads as it did. -/
def rangesBackUptoRow : OpenClaim := { program := "ytndocngkganpdaa", sum := "a70819712b278e47bfffaba65cb33622e5a42daa8e5cc88e02aa67e6276fb266", func := "reveille/reveillelaw15.RangesBack", spec := "rangesBack", inPlace := ["internal/bytealg.IndexByteString"], unfollowed := true, recurses := true, plainKeys := false, apart := false, narrowed := true }
def RangesBackUptoSaid : Prop := rangesBackUptoRow.holds Try.pinned (OpenSpec.upto rangesBackSpec)

/-- 'reveillelaw15.RangesSteps', WHERE WHAT IT READS IS OF BULK AT MOST 1048576: true; the input reads as it did. -/
def rangesStepsUptoRow : OpenClaim := { program := "ytndocngkganpdaa", sum := "a70819712b278e47bfffaba65cb33622e5a42daa8e5cc88e02aa67e6276fb266", func := "reveille/reveillelaw15.RangesSteps", spec := "rangesSteps", inPlace := ["internal/bytealg.IndexByteString"], unfollowed := true, recurses := true, plainKeys := false, apart := false, narrowed := true }
def RangesStepsUptoSaid : Prop := rangesStepsUptoRow.holds Try.pinned (OpenSpec.upto rangesStepsSpec)

/-- 'reveillelaw15.RangesAsk', WHERE WHAT IT READS IS OF BULK AT MOST 1048576: true; the input reads as it did. -/
def rangesAskUptoRow : OpenClaim := { program := "ytndocngkganpdaa", sum := "a70819712b278e47bfffaba65cb33622e5a42daa8e5cc88e02aa67e6276fb266", func := "reveille/reveillelaw15.RangesAsk", spec := "rangesAsk", inPlace := ["internal/bytealg.IndexByteString"], unfollowed := true, recurses := true, plainKeys := false, apart := false, narrowed := true }
def RangesAskUptoSaid : Prop := rangesAskUptoRow.holds Try.pinned (OpenSpec.upto rangesAskSpec)

/-- 'reveillelaw15.RangesNone', WHERE WHAT IT READS IS OF BULK AT MOST 1048576: true; the input reads as it did. -/
def rangesNoneUptoRow : OpenClaim := { program := "ytndocngkganpdaa", sum := "a70819712b278e47bfffaba65cb33622e5a42daa8e5cc88e02aa67e6276fb266", func := "reveille/reveillelaw15.RangesNone", spec := "rangesNone", inPlace := ["internal/bytealg.IndexByteString"], unfollowed := true, recurses := true, plainKeys := false, apart := false, narrowed := true }
def RangesNoneUptoSaid : Prop := rangesNoneUptoRow.holds Try.pinned (OpenSpec.upto rangesNoneSpec)

end Rows
end Go.Proofs.Ytndocngkganpdaa
