/-
  DERIVED. GIVEN WITH THE SEED: THE CARDS: each row of YtfipljhlponcoaaDoorRows.lean that lists a variable, with what it lists TIED to the program's text (the seventh form; the later family's looks); each row that meets fmt, with fmt's text TOLD by the authors' own Lean function (tested against real Go, not proved from fmt's source: count such statements apart). THE CARD IS WHAT COUNTS. Prove the row's statement (the work); the ties are given (YtfipljhlponcoaaDoorTie.lean); close each card by the builder's one call (the guide's Derived/Test/ToyasCard.lean, 'card_holds'). Laid BY PROGRAM, IN A SANDBOX (cutbox-door.mjs). By AI agents, Wed Nov 11 2026. No macro, syntax, notation, axiom, sorry.
-/
import Derived.Test.YtfipljhlponcoaaDoorRows
import GoSem.ClaimSeven
namespace Go.Proofs.YtfipljhlponcoaaDoor
namespace Rows

/-- THE TIED CARD OF 'reveillelaw01.WordsNumbers'. -/
def wordsNumbersCard : Claim7 := { stood := { row := wordsNumbersRow, standIns := [], harness := (true, "2a7116d0e6284864bc4f10701f5cf09af1ae50ba507cc53ce8ab645d055e6ee4"), looks := true }, kinds := [], alts := [], laidByText := true, laidKinds := [.data, .data, .data, .sentinel, .sentinel], laidTests := true, laidLooks := .later }
def WordsNumbersCardSaid : Prop := Claim7.holds Tryd.pinned (.plain (OpenSpec.ofChange wordsNumbersSpec)) wordsNumbersCard

/-- THE TIED CARD OF 'reveillelaw01.WordsColumns'. -/
def wordsColumnsCard : Claim7 := { stood := { row := wordsColumnsRow, standIns := [], harness := (true, "2a7116d0e6284864bc4f10701f5cf09af1ae50ba507cc53ce8ab645d055e6ee4"), looks := true }, kinds := [], alts := [], laidByText := true, laidKinds := [.data, .pinned], laidTests := true, laidLooks := .later }
def WordsColumnsCardSaid : Prop := Claim7.holds Tryd.pinned (.plain (OpenSpec.ofChange wordsColumnsSpec)) wordsColumnsCard

/-- THE TIED CARD OF 'reveillelaw01.WordsLines'. -/
def wordsLinesCard : Claim7 := { stood := { row := wordsLinesRow, standIns := [], harness := (true, "2a7116d0e6284864bc4f10701f5cf09af1ae50ba507cc53ce8ab645d055e6ee4"), looks := true }, kinds := [], alts := [], laidByText := true, laidKinds := [.data, .data, .data, .sentinel, .sentinel], laidTests := true, laidLooks := .later }
def WordsLinesCardSaid : Prop := Claim7.holds Tryd.pinned (.plain (OpenSpec.ofChange wordsLinesSpec)) wordsLinesCard

/-- THE TIED CARD OF 'reveillelaw01.WordsBack'. -/
def wordsBackCard : Claim7 := { stood := { row := wordsBackRow, standIns := [], harness := (true, "2a7116d0e6284864bc4f10701f5cf09af1ae50ba507cc53ce8ab645d055e6ee4"), looks := true }, kinds := [], alts := [], laidByText := true, laidKinds := [.data, .data, .data, .data, .sentinel, .sentinel, .pinned], laidTests := true, laidLooks := .later }
def WordsBackCardSaid : Prop := Claim7.holds Tryd.pinned (.plain (OpenSpec.ofChange wordsBackSpec)) wordsBackCard

/-- THE TIED CARD OF 'reveillelaw01.WordsWidths'. -/
def wordsWidthsCard : Claim7 := { stood := { row := wordsWidthsRow, standIns := [], harness := (true, "2a7116d0e6284864bc4f10701f5cf09af1ae50ba507cc53ce8ab645d055e6ee4"), looks := true }, kinds := [], alts := [], laidByText := true, laidKinds := [.data, .data, .data, .data, .sentinel, .sentinel, .pinned], laidTests := true, laidLooks := .later }
def WordsWidthsCardSaid : Prop := Claim7.holds Tryd.pinned (.plain (OpenSpec.ofChange wordsWidthsSpec)) wordsWidthsCard

/-- THE TIED CARD OF 'reveillelaw01.WordsClosed'. -/
def wordsClosedCard : Claim7 := { stood := { row := wordsClosedRow, standIns := [], harness := (true, "2a7116d0e6284864bc4f10701f5cf09af1ae50ba507cc53ce8ab645d055e6ee4"), looks := true }, kinds := [], alts := [], laidByText := true, laidKinds := [.data, .data, .data, .data, .sentinel, .sentinel, .pinned], laidTests := true, laidLooks := .later }
def WordsClosedCardSaid : Prop := Claim7.holds Tryd.pinned (.plain (OpenSpec.ofChange wordsClosedSpec)) wordsClosedCard

/-- THE TIED CARD OF 'reveillelaw01.WordsTurns'. -/
def wordsTurnsCard : Claim7 := { stood := { row := wordsTurnsRow, standIns := [], harness := (true, "2a7116d0e6284864bc4f10701f5cf09af1ae50ba507cc53ce8ab645d055e6ee4"), looks := true }, kinds := [], alts := [], laidByText := true, laidKinds := [.data, .data, .data, .data, .sentinel, .sentinel, .pinned], laidTests := true, laidLooks := .later }
def WordsTurnsCardSaid : Prop := Claim7.holds Tryd.pinned (.plain (OpenSpec.ofChange wordsTurnsSpec)) wordsTurnsCard

/-- THE SECOND FORM's CARD OF 'reveillelaw01.WordsNumbers'. -/
def wordsNumbersUptoCard : Claim7 := { stood := { row := wordsNumbersUptoRow, standIns := [], harness := (true, "2a7116d0e6284864bc4f10701f5cf09af1ae50ba507cc53ce8ab645d055e6ee4"), looks := true }, kinds := [], alts := [], laidByText := true, laidKinds := [.data, .data, .data, .sentinel, .sentinel], laidTests := true, laidLooks := .later }
def WordsNumbersUptoCardSaid : Prop := Claim7.holds Tryd.pinned (.plain (OpenSpec.upto wordsNumbersSpec)) wordsNumbersUptoCard

/-- THE SECOND FORM's CARD OF 'reveillelaw01.WordsColumns'. -/
def wordsColumnsUptoCard : Claim7 := { stood := { row := wordsColumnsUptoRow, standIns := [], harness := (true, "2a7116d0e6284864bc4f10701f5cf09af1ae50ba507cc53ce8ab645d055e6ee4"), looks := true }, kinds := [], alts := [], laidByText := true, laidKinds := [.data, .pinned], laidTests := true, laidLooks := .later }
def WordsColumnsUptoCardSaid : Prop := Claim7.holds Tryd.pinned (.plain (OpenSpec.upto wordsColumnsSpec)) wordsColumnsUptoCard

/-- THE SECOND FORM's CARD OF 'reveillelaw01.WordsLines'. -/
def wordsLinesUptoCard : Claim7 := { stood := { row := wordsLinesUptoRow, standIns := [], harness := (true, "2a7116d0e6284864bc4f10701f5cf09af1ae50ba507cc53ce8ab645d055e6ee4"), looks := true }, kinds := [], alts := [], laidByText := true, laidKinds := [.data, .data, .data, .sentinel, .sentinel], laidTests := true, laidLooks := .later }
def WordsLinesUptoCardSaid : Prop := Claim7.holds Tryd.pinned (.plain (OpenSpec.upto wordsLinesSpec)) wordsLinesUptoCard

/-- THE SECOND FORM's CARD OF 'reveillelaw01.WordsBack'. -/
def wordsBackUptoCard : Claim7 := { stood := { row := wordsBackUptoRow, standIns := [], harness := (true, "2a7116d0e6284864bc4f10701f5cf09af1ae50ba507cc53ce8ab645d055e6ee4"), looks := true }, kinds := [], alts := [], laidByText := true, laidKinds := [.data, .data, .data, .data, .sentinel, .sentinel, .pinned], laidTests := true, laidLooks := .later }
def WordsBackUptoCardSaid : Prop := Claim7.holds Tryd.pinned (.plain (OpenSpec.upto wordsBackSpec)) wordsBackUptoCard

/-- THE SECOND FORM's CARD OF 'reveillelaw01.WordsWidths'. -/
def wordsWidthsUptoCard : Claim7 := { stood := { row := wordsWidthsUptoRow, standIns := [], harness := (true, "2a7116d0e6284864bc4f10701f5cf09af1ae50ba507cc53ce8ab645d055e6ee4"), looks := true }, kinds := [], alts := [], laidByText := true, laidKinds := [.data, .data, .data, .data, .sentinel, .sentinel, .pinned], laidTests := true, laidLooks := .later }
def WordsWidthsUptoCardSaid : Prop := Claim7.holds Tryd.pinned (.plain (OpenSpec.upto wordsWidthsSpec)) wordsWidthsUptoCard

/-- THE SECOND FORM's CARD OF 'reveillelaw01.WordsClosed'. -/
def wordsClosedUptoCard : Claim7 := { stood := { row := wordsClosedUptoRow, standIns := [], harness := (true, "2a7116d0e6284864bc4f10701f5cf09af1ae50ba507cc53ce8ab645d055e6ee4"), looks := true }, kinds := [], alts := [], laidByText := true, laidKinds := [.data, .data, .data, .data, .sentinel, .sentinel, .pinned], laidTests := true, laidLooks := .later }
def WordsClosedUptoCardSaid : Prop := Claim7.holds Tryd.pinned (.plain (OpenSpec.upto wordsClosedSpec)) wordsClosedUptoCard

/-- THE SECOND FORM's CARD OF 'reveillelaw01.WordsTurns'. -/
def wordsTurnsUptoCard : Claim7 := { stood := { row := wordsTurnsUptoRow, standIns := [], harness := (true, "2a7116d0e6284864bc4f10701f5cf09af1ae50ba507cc53ce8ab645d055e6ee4"), looks := true }, kinds := [], alts := [], laidByText := true, laidKinds := [.data, .data, .data, .data, .sentinel, .sentinel, .pinned], laidTests := true, laidLooks := .later }
def WordsTurnsUptoCardSaid : Prop := Claim7.holds Tryd.pinned (.plain (OpenSpec.upto wordsTurnsSpec)) wordsTurnsUptoCard
end Rows
end Go.Proofs.YtfipljhlponcoaaDoor
