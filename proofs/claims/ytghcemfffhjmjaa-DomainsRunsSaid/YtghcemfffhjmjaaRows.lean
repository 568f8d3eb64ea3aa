/-
  No cell of these rows narrows 'for every input' (looked for: loops, veiled, ifaces, maps, wideKeys, modest, calm, conditions, laid).
  DERIVED. THE GIVEN ROWS OF THIS SEAT. 5 by the template 'for every input the law returns true; each argument reads behind the call as it read before'; 0 by the template 'total and deterministic' (their statements: YtghcemfffhjmjaaTotals.lean).
  GIVEN WITH THE SEED: the statements are not yours to turn. If you find one false, say at which input.
  Laid BY PROGRAM, IN A SANDBOX (cutbox-rows.mjs): the forced cells as the released guide's own fill.sh prints them over the translation 3042c3c8d4d87854… (all of the seat's roots in one cut). By AI agents, Wed Nov 11 2026. No macro, syntax, notation, axiom, sorry.
-/
import Derived.Test.YtghcemfffhjmjaaChecked
import GoSem.Claim
import GoSem.ClaimJoined
import GoSem.ClaimMapViews
import Derived.JoinedTies
import Derived.KernelRfl
namespace Go.Proofs.Ytghcemfffhjmjaa
/- THE CELL 'sum', in the pinned program and in every row, IS THE sha256 OF THE DUMP (.gsa) THAT YtghcemfffhjmjaaProg.lean LOADS. Nothing in Lean hashes anything: it is a label: what it is worth is what the hold of that sum in a sandbox is worth. -/
noncomputable def Try.pinned : Pinned := { name := "ytghcemfffhjmjaa", sum := "3042c3c8d4d878542c9c8326f13414e93a94a863d04f11f82303973cbb50fd7e", checked := Try.checked }
namespace Rows
def none {H : Type} : Left H := { results := [], args := [] }

/-- 'reveillelaw20.DomainsRaise': WHATEVER THE INPUT: true; the input reads as it did. -/
def domainsRaiseSpec : ChangeSpec := { name := "domainsRaise", fn := fun _ => fun
  | [d1, d2, d3, d4] => { results := [.lit (.bool true)], args := [d1, d2, d3, d4] }
  | _ => none }
def domainsRaiseRow : OpenClaim := { program := "ytghcemfffhjmjaa", sum := "3042c3c8d4d878542c9c8326f13414e93a94a863d04f11f82303973cbb50fd7e", func := "reveille/reveillelaw20.DomainsRaise", spec := "domainsRaise", unfollowed := true, recurses := true, plainKeys := false, apart := false }
def DomainsRaiseSaid : Prop := domainsRaiseRow.holds Try.pinned (OpenSpec.ofChange domainsRaiseSpec)

/-- ITS FALSE NEIGHBOUR: 'it returns false'. Refute it at one input. -/
def domainsRaiseWrong : ChangeSpec := { name := "domainsRaise", fn := fun _ => fun
  | [d1, d2, d3, d4] => { results := [.lit (.bool false)], args := [d1, d2, d3, d4] }
  | _ => none }
def DomainsRaiseWrongFalsely : Prop := domainsRaiseRow.holds Try.pinned (OpenSpec.ofChange domainsRaiseWrong)

/-- 'reveillelaw20.DomainsOrder': WHATEVER THE INPUT: true; the input reads as it did. -/
def domainsOrderSpec : ChangeSpec := { name := "domainsOrder", fn := fun _ => fun
  | [d1, d2] => { results := [.lit (.bool true)], args := [d1, d2] }
  | _ => none }
def domainsOrderRow : OpenClaim := { program := "ytghcemfffhjmjaa", sum := "3042c3c8d4d878542c9c8326f13414e93a94a863d04f11f82303973cbb50fd7e", func := "reveille/reveillelaw20.DomainsOrder", spec := "domainsOrder", unfollowed := true, recurses := true, plainKeys := false, apart := false }
def DomainsOrderSaid : Prop := domainsOrderRow.holds Try.pinned (OpenSpec.ofChange domainsOrderSpec)

/-- ITS FALSE NEIGHBOUR: 'it returns false'. Refute it at one input. -/
def domainsOrderWrong : ChangeSpec := { name := "domainsOrder", fn := fun _ => fun
  | [d1, d2] => { results := [.lit (.bool false)], args := [d1, d2] }
  | _ => none }
def DomainsOrderWrongFalsely : Prop := domainsOrderRow.holds Try.pinned (OpenSpec.ofChange domainsOrderWrong)

/-- 'reveillelaw20.DomainsNeeded': WHATEVER THE INPUT: true; the input reads as it did. -/
def domainsNeededSpec : ChangeSpec := { name := "domainsNeeded", fn := fun _ => fun
  | [d1, d2] => { results := [.lit (.bool true)], args := [d1, d2] }
  | _ => none }
def domainsNeededRow : OpenClaim := { program := "ytghcemfffhjmjaa", sum := "3042c3c8d4d878542c9c8326f13414e93a94a863d04f11f82303973cbb50fd7e", func := "reveille/reveillelaw20.DomainsNeeded", spec := "domainsNeeded", unfollowed := true, recurses := true, plainKeys := false, apart := false }
def DomainsNeededSaid : Prop := domainsNeededRow.holds Try.pinned (OpenSpec.ofChange domainsNeededSpec)

/-- ITS FALSE NEIGHBOUR: 'it returns false'. Refute it at one input. -/
def domainsNeededWrong : ChangeSpec := { name := "domainsNeeded", fn := fun _ => fun
  | [d1, d2] => { results := [.lit (.bool false)], args := [d1, d2] }
  | _ => none }
def DomainsNeededWrongFalsely : Prop := domainsNeededRow.holds Try.pinned (OpenSpec.ofChange domainsNeededWrong)

/-- 'reveillelaw20.DomainsRuns': WHATEVER THE INPUT: true; the input reads as it did. -/
def domainsRunsSpec : ChangeSpec := { name := "domainsRuns", fn := fun _ => fun
  | [d1, d2] => { results := [.lit (.bool true)], args := [d1, d2] }
  | _ => none }
def domainsRunsRow : OpenClaim := { program := "ytghcemfffhjmjaa", sum := "3042c3c8d4d878542c9c8326f13414e93a94a863d04f11f82303973cbb50fd7e", func := "reveille/reveillelaw20.DomainsRuns", spec := "domainsRuns", unfollowed := true, recurses := true, plainKeys := false, apart := false }
def DomainsRunsSaid : Prop := domainsRunsRow.holds Try.pinned (OpenSpec.ofChange domainsRunsSpec)

/-- ITS FALSE NEIGHBOUR: 'it returns false'. Refute it at one input. -/
def domainsRunsWrong : ChangeSpec := { name := "domainsRuns", fn := fun _ => fun
  | [d1, d2] => { results := [.lit (.bool false)], args := [d1, d2] }
  | _ => none }
def DomainsRunsWrongFalsely : Prop := domainsRunsRow.holds Try.pinned (OpenSpec.ofChange domainsRunsWrong)

/-- 'reveillelaw20.DomainsNames': WHATEVER THE INPUT: true; the input reads as it did. -/
def domainsNamesSpec : ChangeSpec := { name := "domainsNames", fn := fun _ => fun
  | [] => { results := [.lit (.bool true)], args := [] }
  | _ => none }
def domainsNamesRow : OpenClaim := { program := "ytghcemfffhjmjaa", sum := "3042c3c8d4d878542c9c8326f13414e93a94a863d04f11f82303973cbb50fd7e", func := "reveille/reveillelaw20.DomainsNames", spec := "domainsNames", unfollowed := true, recurses := true, plainKeys := false, apart := false }
def DomainsNamesSaid : Prop := domainsNamesRow.holds Try.pinned (OpenSpec.ofChange domainsNamesSpec)

/-- ITS FALSE NEIGHBOUR: 'it returns false'. Refute it at one input. -/
def domainsNamesWrong : ChangeSpec := { name := "domainsNames", fn := fun _ => fun
  | [] => { results := [.lit (.bool false)], args := [] }
  | _ => none }
def DomainsNamesWrongFalsely : Prop := domainsNamesRow.holds Try.pinned (OpenSpec.ofChange domainsNamesWrong)

/- THE SECOND FORM. 'bulk': how many values and letters a reading holds, each counted each time it is reached (what is shared counts as often as it is met; a slice's spare places count too). A statement '..UptoSaid' is the law's where the arguments, and the package variables that the reading takes, are together of bulk at most 1048576: NARROWER than '..Said'. Prove '..Said' where nothing that the law and all that it calls make is longer than what came in: it says more and counts as full. Else prove '..UptoSaid'. A law counts once. -/
mutual
def uptoBulk {H : Type} : DataW H → Nat
  | .lit (.string bytes) => bytes.length + 1
  | .lit _ => 1
  | .nil => 1
  | .ptr d => uptoBulk d + 1
  | .slice elems spare => uptoBulkAll elems + uptoBulkAll spare + 1
  | .agg parts => uptoBulkAll parts + 1
  | .iface _ d => uptoBulk d + 1
  | .map entries => uptoBulkEntries entries + 1
  | .held _ => 1
def uptoBulkAll {H : Type} : List (DataW H) → Nat
  | [] => 0
  | d :: r => uptoBulk d + uptoBulkAll r
def uptoBulkEntries {H : Type} : List (Lit × DataW H) → Nat
  | [] => 0
  | x :: r => uptoBulkEntry x + uptoBulkEntries r
def uptoBulkEntry {H : Type} : Lit × DataW H → Nat
  | (.string bytes, d) => bytes.length + uptoBulk d + 1
  | (_, d) => uptoBulk d + 1
 end
def uptoSmall : (H : Type) → List (DataW H) → Bool := fun _ ds => decide (uptoBulkAll ds ≤ 1048576)
def OpenSpec.upto (s : _root_.Go.ChangeSpec) : _root_.Go.OpenSpec := { _root_.Go.OpenSpec.ofChange s with cond := some uptoSmall }

/-- 'reveillelaw20.DomainsRaise', WHERE WHAT IT READS IS OF BULK AT MOST 1048576: true; the input reads as it did. -/
def domainsRaiseUptoRow : OpenClaim := { program := "ytghcemfffhjmjaa", sum := "3042c3c8d4d878542c9c8326f13414e93a94a863d04f11f82303973cbb50fd7e", func := "reveille/reveillelaw20.DomainsRaise", spec := "domainsRaise", unfollowed := true, recurses := true, plainKeys := false, apart := false, narrowed := true }
def DomainsRaiseUptoSaid : Prop := domainsRaiseUptoRow.holds Try.pinned (OpenSpec.upto domainsRaiseSpec)

/-- 'reveillelaw20.DomainsOrder', WHERE WHAT IT READS IS OF BULK AT MOST 1048576: true; the input reads as it did. -/
def domainsOrderUptoRow : OpenClaim := { program := "ytghcemfffhjmjaa", sum := "3042c3c8d4d878542c9c8326f13414e93a94a863d04f11f82303973cbb50fd7e", func := "reveille/reveillelaw20.DomainsOrder", spec := "domainsOrder", unfollowed := true, recurses := true, plainKeys := false, apart := false, narrowed := true }
def DomainsOrderUptoSaid : Prop := domainsOrderUptoRow.holds Try.pinned (OpenSpec.upto domainsOrderSpec)

/-- 'reveillelaw20.DomainsNeeded', WHERE WHAT IT READS IS OF BULK AT MOST 1048576: true; the input reads as it did. -/
def domainsNeededUptoRow : OpenClaim := { program := "ytghcemfffhjmjaa", sum := "3042c3c8d4d878542c9c8326f13414e93a94a863d04f11f82303973cbb50fd7e", func := "reveille/reveillelaw20.DomainsNeeded", spec := "domainsNeeded", unfollowed := true, recurses := true, plainKeys := false, apart := false, narrowed := true }
def DomainsNeededUptoSaid : Prop := domainsNeededUptoRow.holds Try.pinned (OpenSpec.upto domainsNeededSpec)

/-- 'reveillelaw20.DomainsRuns', WHERE WHAT IT READS IS OF BULK AT MOST 1048576: true; the input reads as it did. -/
def domainsRunsUptoRow : OpenClaim := { program := "ytghcemfffhjmjaa", sum := "3042c3c8d4d878542c9c8326f13414e93a94a863d04f11f82303973cbb50fd7e", func := "reveille/reveillelaw20.DomainsRuns", spec := "domainsRuns", unfollowed := true, recurses := true, plainKeys := false, apart := false, narrowed := true }
def DomainsRunsUptoSaid : Prop := domainsRunsUptoRow.holds Try.pinned (OpenSpec.upto domainsRunsSpec)

/-- 'reveillelaw20.DomainsNames', WHERE WHAT IT READS IS OF BULK AT MOST 1048576: true; the input reads as it did. -/
def domainsNamesUptoRow : OpenClaim := { program := "ytghcemfffhjmjaa", sum := "3042c3c8d4d878542c9c8326f13414e93a94a863d04f11f82303973cbb50fd7e", func := "reveille/reveillelaw20.DomainsNames", spec := "domainsNames", unfollowed := true, recurses := true, plainKeys := false, apart := false, narrowed := true }
def DomainsNamesUptoSaid : Prop := domainsNamesUptoRow.holds Try.pinned (OpenSpec.upto domainsNamesSpec)

end Rows
end Go.Proofs.Ytghcemfffhjmjaa
