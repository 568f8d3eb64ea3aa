/-
  DERIVED. GIVEN WITH THE SEED: THE CARDS: each row of YtiheibcookcbdaaDoorRows.lean that lists a variable, with what it lists TIED to the program's text (the seventh form; the later family's looks); each row that meets fmt, with fmt's text TOLD by the authors' own Lean function (tested against real Go, not proved from fmt's source: count such statements apart). THE CARD IS WHAT COUNTS. Prove the row's statement (the work); the ties are given (YtiheibcookcbdaaDoorTie.lean); close each card by the builder's one call (the guide's Derived/Test/ToyasCard.lean, 'card_holds'). Laid BY PROGRAM, IN A SANDBOX (cutbox-door.mjs). By AI agents, Wed Nov 11 2026. No macro, syntax, notation, axiom, sorry.
-/
import Derived.Test.YtiheibcookcbdaaDoorRows
import GoSem.ClaimSeven
namespace Go.Proofs.YtiheibcookcbdaaDoor
namespace Rows

/-- THE TIED CARD OF 'reveillelaw14.MatchSettings'. -/
def matchSettingsCard : Claim7 := { stood := { row := matchSettingsRow, standIns := [], harness := (true, "c7a03190012089688a1321ffe6164743e8e45d637f2988df20ef4ec21c684438"), looks := false }, kinds := [], alts := [], laidByText := true, laidKinds := [.data, .data, .data, .data, .data], laidTests := true, laidLooks := .later }
def MatchSettingsCardSaid : Prop := Claim7.holds Tryd.pinned (.plain (OpenSpec.ofChange matchSettingsSpec)) matchSettingsCard

/-- THE SECOND FORM's CARD OF 'reveillelaw14.MatchSettings'. -/
def matchSettingsUptoCard : Claim7 := { stood := { row := matchSettingsUptoRow, standIns := [], harness := (true, "c7a03190012089688a1321ffe6164743e8e45d637f2988df20ef4ec21c684438"), looks := false }, kinds := [], alts := [], laidByText := true, laidKinds := [.data, .data, .data, .data, .data], laidTests := true, laidLooks := .later }
def MatchSettingsUptoCardSaid : Prop := Claim7.holds Tryd.pinned (.plain (OpenSpec.upto matchSettingsSpec)) matchSettingsUptoCard
end Rows
end Go.Proofs.YtiheibcookcbdaaDoor
