/-
  No cell of these rows narrows 'for every input' (looked for: loops, veiled, ifaces, maps, wideKeys, modest, calm, conditions, laid).
  DERIVED. THE GIVEN ROWS OF THIS SEAT. 3 by the template 'for every input the law returns true; each argument reads behind the call as it read before'; 0 by the template 'total and deterministic' (their statements: YtfipljhlponcoaaTotals.lean).
  GIVEN WITH THE SEED: the statements are not yours to turn. If you find one false, say at which input.
  Laid BY PROGRAM, IN A SANDBOX (cutbox-rows.mjs): the forced cells as the released guide's own fill.sh prints them over the translation c891de3230d483a9… (all of the seat's roots in one cut). By AI agents, Wed Nov 11 2026. No macro, syntax, notation, axiom, sorry.
-/
import Derived.Test.YtfipljhlponcoaaChecked
import GoSem.Claim
import GoSem.ClaimJoined
import GoSem.ClaimMapViews
import Derived.JoinedTies
import Derived.KernelRfl
namespace Go.Proofs.Ytfipljhlponcoaa
/- THE CELL 'sum', in the pinned program and in every row, IS THE sha256 OF THE DUMP (.gsa) THAT YtfipljhlponcoaaProg.lean LOADS. Nothing in Lean hashes anything: it is a label: what it is worth is what the hold of that sum in a sandbox is worth. -/
noncomputable def Try.pinned : Pinned := { name := "ytfipljhlponcoaa", sum := "c891de3230d483a97e500c4657a1849b525edd17f8675c99b4376a6fa5baae73", checked := Try.checked }
namespace Rows
def none {H : Type} : Left H := { results := [], args := [] }

/-- 'reveillelaw01.WordsSmalls': WHATEVER THE INPUT: true; the input reads as it did. -/
def wordsSmallsSpec : ChangeSpec := { name := "wordsSmalls", fn := fun _ => fun
  | [d1, d2, d3, d4] => { results := [.lit (.bool true)], args := [d1, d2, d3, d4] }
  | _ => none }
def wordsSmallsRow : OpenClaim := { program := "ytfipljhlponcoaa", sum := "c891de3230d483a97e500c4657a1849b525edd17f8675c99b4376a6fa5baae73", func := "reveille/reveillelaw01.WordsSmalls", spec := "wordsSmalls", apart := false }
def WordsSmallsSaid : Prop := wordsSmallsRow.holds Try.pinned (OpenSpec.ofChange wordsSmallsSpec)

/-- ITS FALSE NEIGHBOUR: 'it returns false'. Refute it at one input. -/
def wordsSmallsWrong : ChangeSpec := { name := "wordsSmalls", fn := fun _ => fun
  | [d1, d2, d3, d4] => { results := [.lit (.bool false)], args := [d1, d2, d3, d4] }
  | _ => none }
def WordsSmallsWrongFalsely : Prop := wordsSmallsRow.holds Try.pinned (OpenSpec.ofChange wordsSmallsWrong)

/-- 'reveillelaw01.WordsNames': WHATEVER THE INPUT: true; the input reads as it did. -/
def wordsNamesSpec : ChangeSpec := { name := "wordsNames", fn := fun _ => fun
  | [d] => { results := [.lit (.bool true)], args := [d] }
  | _ => none }
def wordsNamesRow : OpenClaim := { program := "ytfipljhlponcoaa", sum := "c891de3230d483a97e500c4657a1849b525edd17f8675c99b4376a6fa5baae73", func := "reveille/reveillelaw01.WordsNames", spec := "wordsNames", inPlace := ["internal/bytealg.IndexByteString"], apart := false }
def WordsNamesSaid : Prop := wordsNamesRow.holds Try.pinned (OpenSpec.ofChange wordsNamesSpec)

/-- ITS FALSE NEIGHBOUR: 'it returns false'. Refute it at one input. -/
def wordsNamesWrong : ChangeSpec := { name := "wordsNames", fn := fun _ => fun
  | [d] => { results := [.lit (.bool false)], args := [d] }
  | _ => none }
def WordsNamesWrongFalsely : Prop := wordsNamesRow.holds Try.pinned (OpenSpec.ofChange wordsNamesWrong)

/-- 'reveillelaw01.WordsShows': WHATEVER THE INPUT: true; the input reads as it did. -/
def wordsShowsSpec : ChangeSpec := { name := "wordsShows", fn := fun _ => fun
  | [d1, d2] => { results := [.lit (.bool true)], args := [d1, d2] }
  | _ => none }
def wordsShowsRow : OpenClaim := { program := "ytfipljhlponcoaa", sum := "c891de3230d483a97e500c4657a1849b525edd17f8675c99b4376a6fa5baae73", func := "reveille/reveillelaw01.WordsShows", spec := "wordsShows", inPlace := ["internal/abi.NoEscape", "internal/bytealg.MakeNoZero"], apart := false }
def WordsShowsSaid : Prop := wordsShowsRow.holds Try.pinned (OpenSpec.ofChange wordsShowsSpec)

/-- ITS FALSE NEIGHBOUR: 'it returns false'. Refute it at one input. -/
def wordsShowsWrong : ChangeSpec := { name := "wordsShows", fn := fun _ => fun
  | [d1, d2] => { results := [.lit (.bool false)], args := [d1, d2] }
  | _ => none }
def WordsShowsWrongFalsely : Prop := wordsShowsRow.holds Try.pinned (OpenSpec.ofChange wordsShowsWrong)

/- THE SECOND FORM. 'bulk': how many values and letters a reading holds, each counted each time it is reached (what is shared counts as often as it is met; a slice's spare places count too). A statement '..UptoSaid' is the law's where the arguments, and the package variables that the reading takes, are together of bulk at most 1048576: NARROWER than '..Said'. Prove '..Said' where nothing that the law and all that it calls make is longer than what came in: it says more and counts as full. Else prove '..UptoSaid'. A law counts once. -/
mutual
def uptoBulk {H : Type} : DataW H → Nat
  | .lit (.string bytes) => bytes.length + 1
  | .lit _ => 1
  | .nil => 1
  | .ptr d => uptoBulk d + 1
  | .slice elems spare => uptoBulkAll elems + uptoBulkAll spare + 1
  | .agg parts => uptoBulkAll parts + 1
  | .iface _ d => uptoBulk d + 1
  | .map entries => uptoBulkEntries entries + 1
  | .held _ => 1
def uptoBulkAll {H : Type} : List (DataW H) → Nat
  | [] => 0
  | d :: r => uptoBulk d + uptoBulkAll r
def uptoBulkEntries {H : Type} : List (Lit × DataW H) → Nat
  | [] => 0
  | x :: r => uptoBulkEntry x + uptoBulkEntries r
def uptoBulkEntry {H : Type} : Lit × DataW H → Nat
  | (.string bytes, d) => bytes.length + uptoBulk d + 1
  | (_, d) => uptoBulk d + 1
 end
def uptoSmall : (H : Type) → List (DataW H) → Bool := fun _ ds => decide (uptoBulkAll ds ≤ 1048576)
def OpenSpec.upto (s : _root_.Go.ChangeSpec) : _root_.Go.OpenSpec := { _root_.Go.OpenSpec.ofChange s with cond := some uptoSmall }

/-- 'reveillelaw01.WordsSmalls', WHERE WHAT IT READS IS OF BULK AT MOST 1048576: true; the input reads as it did. -/
def wordsSmallsUptoRow : OpenClaim := { program := "ytfipljhlponcoaa", sum := "c891de3230d483a97e500c4657a1849b525edd17f8675c99b4376a6fa5baae73", func := "reveille/reveillelaw01.WordsSmalls", spec := "wordsSmalls", apart := false, narrowed := true }
def WordsSmallsUptoSaid : Prop := wordsSmallsUptoRow.holds Try.pinned (OpenSpec.upto wordsSmallsSpec)

/-- 'reveillelaw01.WordsNames', WHERE WHAT IT READS IS OF BULK AT MOST 1048576: true; the input reads as it did. -/
def wordsNamesUptoRow : OpenClaim := { program := "ytfipljhlponcoaa", sum := "c891de3230d483a97e500c4657a1849b525edd17f8675c99b4376a6fa5baae73", func := "reveille/reveillelaw01.WordsNames", spec := "wordsNames", inPlace := ["internal/bytealg.IndexByteString"], apart := false, narrowed := true }
def WordsNamesUptoSaid : Prop := wordsNamesUptoRow.holds Try.pinned (OpenSpec.upto wordsNamesSpec)

/-- 'reveillelaw01.WordsShows', WHERE WHAT IT READS IS OF BULK AT MOST 1048576: true; the input reads as it did. -/
def wordsShowsUptoRow : OpenClaim := { program := "ytfipljhlponcoaa", sum := "c891de3230d483a97e500c4657a1849b525edd17f8675c99b4376a6fa5baae73", func := "reveille/reveillelaw01.WordsShows", spec := "wordsShows", inPlace := ["internal/abi.NoEscape", "internal/bytealg.MakeNoZero"], apart := false, narrowed := true }
def WordsShowsUptoSaid : Prop := wordsShowsUptoRow.holds Try.pinned (OpenSpec.upto wordsShowsSpec)

end Rows
end Go.Proofs.Ytfipljhlponcoaa
