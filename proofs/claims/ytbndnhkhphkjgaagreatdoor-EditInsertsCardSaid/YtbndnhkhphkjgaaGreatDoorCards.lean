/-
  DERIVED. GIVEN WITH THE SEED: THE CARDS: each row of YtbndnhkhphkjgaaGreatDoorRows.lean that lists a variable, with what it lists TIED to the program's text (the seventh form; the later family's looks); each row that meets fmt, with fmt's text TOLD by the authors' own Lean function (tested against real Go, not proved from fmt's source: count such statements apart). THE CARD IS WHAT COUNTS. Prove the row's statement (the work); the ties are given (YtbndnhkhphkjgaaGreatDoorTie.lean); close each card by the builder's one call (the guide's Derived/Test/ToyasCard.lean, 'card_holds'). Laid BY PROGRAM, IN A SANDBOX (cutbox-door.mjs). By AI agents, Wed Nov 11 2026. No macro, syntax, notation, axiom, sorry.
-/
import Derived.Test.YtbndnhkhphkjgaaGreatDoorRows
import GoSem.ClaimSeven
namespace Go.Proofs.YtbndnhkhphkjgaaGreatDoor
namespace Rows

/-- THE TIED CARD OF 'scholiumlaw23.EditErrors'. -/
def editErrorsCard : Claim7 := { stood := { row := editErrorsRow, standIns := [], harness := (true, "1eeda99793e10407194d64da6f0027ea9a8dc504e1dd2aac329312a850d7e690"), looks := true }, kinds := [], alts := [], laidByText := true, laidKinds := [.data, .data, .data, .data, .sentinel, .sentinel, .pinned], laidTests := true, laidLooks := .later }
def EditErrorsCardSaid : Prop := Claim7.holds Tryz.pinned (.plain (OpenSpec.ofChange editErrorsSpec)) editErrorsCard

/-- THE TIED CARD OF 'scholiumlaw23.EditSets'. -/
def editSetsCard : Claim7 := { stood := { row := editSetsRow, standIns := [], harness := (true, "1eeda99793e10407194d64da6f0027ea9a8dc504e1dd2aac329312a850d7e690"), looks := true }, kinds := [], alts := [], laidByText := true, laidKinds := [.data, .data, .data, .data, .sentinel, .sentinel, .pinned], laidTests := true, laidLooks := .later }
def EditSetsCardSaid : Prop := Claim7.holds Tryz.pinned (.plain (OpenSpec.ofChange editSetsSpec)) editSetsCard

/-- THE TIED CARD OF 'scholiumlaw23.EditInserts'. -/
def editInsertsCard : Claim7 := { stood := { row := editInsertsRow, standIns := [], harness := (true, "1eeda99793e10407194d64da6f0027ea9a8dc504e1dd2aac329312a850d7e690"), looks := true }, kinds := [], alts := [], laidByText := true, laidKinds := [.data, .data, .data, .data, .sentinel, .sentinel, .pinned], laidTests := true, laidLooks := .later }
def EditInsertsCardSaid : Prop := Claim7.holds Tryz.pinned (.plain (OpenSpec.ofChange editInsertsSpec)) editInsertsCard

/-- THE TIED CARD OF 'scholiumlaw24.ScriptLists'. -/
def scriptListsCard : Claim7 := { stood := { row := scriptListsRow, standIns := [], harness := (true, "1eeda99793e10407194d64da6f0027ea9a8dc504e1dd2aac329312a850d7e690"), looks := true }, kinds := [], alts := [], laidByText := true, laidKinds := [.data, .data, .data, .data, .sentinel, .sentinel, .pinned], laidTests := true, laidLooks := .later }
def ScriptListsCardSaid : Prop := Claim7.holds Tryz.pinned (.plain (OpenSpec.ofChange scriptListsSpec)) scriptListsCard

/-- THE TIED CARD OF 'scholiumlaw24.ScriptLong'. -/
def scriptLongCard : Claim7 := { stood := { row := scriptLongRow, standIns := [], harness := (true, "1eeda99793e10407194d64da6f0027ea9a8dc504e1dd2aac329312a850d7e690"), looks := true }, kinds := [], alts := [], laidByText := true, laidKinds := [.data, .data, .data, .data, .sentinel, .sentinel, .pinned], laidTests := true, laidLooks := .later }
def ScriptLongCardSaid : Prop := Claim7.holds Tryz.pinned (.plain (OpenSpec.ofChange scriptLongSpec)) scriptLongCard

/-- THE TIED CARD OF 'scholiumtop.TopMoves'. -/
def topMovesCard : Claim7 := { stood := { row := topMovesRow, standIns := [], harness := (true, "1eeda99793e10407194d64da6f0027ea9a8dc504e1dd2aac329312a850d7e690"), looks := true }, kinds := [], alts := [], laidByText := true, laidKinds := [.data, .data, .data, .data, .sentinel, .sentinel, .pinned], laidTests := true, laidLooks := .later }
def TopMovesCardSaid : Prop := Claim7.holds Tryz.pinned (.plain (OpenSpec.ofChange topMovesSpec)) topMovesCard

/-- THE SECOND FORM's CARD OF 'scholiumlaw23.EditErrors'. -/
def editErrorsUptoCard : Claim7 := { stood := { row := editErrorsUptoRow, standIns := [], harness := (true, "1eeda99793e10407194d64da6f0027ea9a8dc504e1dd2aac329312a850d7e690"), looks := true }, kinds := [], alts := [], laidByText := true, laidKinds := [.data, .data, .data, .data, .sentinel, .sentinel, .pinned], laidTests := true, laidLooks := .later }
def EditErrorsUptoCardSaid : Prop := Claim7.holds Tryz.pinned (.plain (OpenSpec.upto editErrorsSpec)) editErrorsUptoCard

/-- THE SECOND FORM's CARD OF 'scholiumlaw23.EditSets'. -/
def editSetsUptoCard : Claim7 := { stood := { row := editSetsUptoRow, standIns := [], harness := (true, "1eeda99793e10407194d64da6f0027ea9a8dc504e1dd2aac329312a850d7e690"), looks := true }, kinds := [], alts := [], laidByText := true, laidKinds := [.data, .data, .data, .data, .sentinel, .sentinel, .pinned], laidTests := true, laidLooks := .later }
def EditSetsUptoCardSaid : Prop := Claim7.holds Tryz.pinned (.plain (OpenSpec.upto editSetsSpec)) editSetsUptoCard

/-- THE SECOND FORM's CARD OF 'scholiumlaw23.EditInserts'. -/
def editInsertsUptoCard : Claim7 := { stood := { row := editInsertsUptoRow, standIns := [], harness := (true, "1eeda99793e10407194d64da6f0027ea9a8dc504e1dd2aac329312a850d7e690"), looks := true }, kinds := [], alts := [], laidByText := true, laidKinds := [.data, .data, .data, .data, .sentinel, .sentinel, .pinned], laidTests := true, laidLooks := .later }
def EditInsertsUptoCardSaid : Prop := Claim7.holds Tryz.pinned (.plain (OpenSpec.upto editInsertsSpec)) editInsertsUptoCard

/-- THE SECOND FORM's CARD OF 'scholiumlaw24.ScriptLists'. -/
def scriptListsUptoCard : Claim7 := { stood := { row := scriptListsUptoRow, standIns := [], harness := (true, "1eeda99793e10407194d64da6f0027ea9a8dc504e1dd2aac329312a850d7e690"), looks := true }, kinds := [], alts := [], laidByText := true, laidKinds := [.data, .data, .data, .data, .sentinel, .sentinel, .pinned], laidTests := true, laidLooks := .later }
def ScriptListsUptoCardSaid : Prop := Claim7.holds Tryz.pinned (.plain (OpenSpec.upto scriptListsSpec)) scriptListsUptoCard

/-- THE SECOND FORM's CARD OF 'scholiumlaw24.ScriptLong'. -/
def scriptLongUptoCard : Claim7 := { stood := { row := scriptLongUptoRow, standIns := [], harness := (true, "1eeda99793e10407194d64da6f0027ea9a8dc504e1dd2aac329312a850d7e690"), looks := true }, kinds := [], alts := [], laidByText := true, laidKinds := [.data, .data, .data, .data, .sentinel, .sentinel, .pinned], laidTests := true, laidLooks := .later }
def ScriptLongUptoCardSaid : Prop := Claim7.holds Tryz.pinned (.plain (OpenSpec.upto scriptLongSpec)) scriptLongUptoCard

/-- THE SECOND FORM's CARD OF 'scholiumtop.TopMoves'. -/
def topMovesUptoCard : Claim7 := { stood := { row := topMovesUptoRow, standIns := [], harness := (true, "1eeda99793e10407194d64da6f0027ea9a8dc504e1dd2aac329312a850d7e690"), looks := true }, kinds := [], alts := [], laidByText := true, laidKinds := [.data, .data, .data, .data, .sentinel, .sentinel, .pinned], laidTests := true, laidLooks := .later }
def TopMovesUptoCardSaid : Prop := Claim7.holds Tryz.pinned (.plain (OpenSpec.upto topMovesSpec)) topMovesUptoCard
end Rows
end Go.Proofs.YtbndnhkhphkjgaaGreatDoor
