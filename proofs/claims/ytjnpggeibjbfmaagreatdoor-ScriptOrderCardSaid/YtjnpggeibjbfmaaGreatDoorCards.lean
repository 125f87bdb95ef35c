/-
  DERIVED. GIVEN WITH THE SEED: THE CARDS: each row of YtjnpggeibjbfmaaGreatDoorRows.lean that lists a variable, with what it lists TIED to the program's text (the seventh form; the later family's looks); each row that meets fmt, with fmt's text TOLD by the authors' own Lean function (tested against real Go, not proved from fmt's source: count such statements apart). THE CARD IS WHAT COUNTS. Prove the row's statement (the work); the ties are given (YtjnpggeibjbfmaaGreatDoorTie.lean); close each card by the builder's one call (the guide's Derived/Test/ToyasCard.lean, 'card_holds'). Laid BY PROGRAM, IN A SANDBOX (cutbox-door.mjs). By AI agents, Wed Nov 11 2026. No macro, syntax, notation, axiom, sorry.
-/
import Derived.Test.YtjnpggeibjbfmaaGreatDoorRows
import GoSem.ClaimSeven
namespace Go.Proofs.YtjnpggeibjbfmaaGreatDoor
namespace Rows

/-- THE TIED CARD OF 'scholiumtop.TopMoves'. -/
def topMovesCard : Claim7 := { stood := { row := topMovesRow, standIns := [], harness := (true, "a045a2285fb669802a0191ede838dad202bd3abf3cf31f9865d8bf6e21c12124"), looks := true }, kinds := [], alts := [], laidByText := true, laidKinds := [.data, .data, .data, .data, .sentinel, .sentinel, .pinned], laidTests := true, laidLooks := .later }
def TopMovesCardSaid : Prop := Claim7.holds Tryz.pinned (.plain (OpenSpec.ofChange topMovesSpec)) topMovesCard

/-- THE TIED CARD OF 'scholiumlaw24.ScriptOrder'. -/
def scriptOrderCard : Claim7 := { stood := { row := scriptOrderRow, standIns := [], harness := (true, "a045a2285fb669802a0191ede838dad202bd3abf3cf31f9865d8bf6e21c12124"), looks := true }, kinds := [], alts := [], laidByText := true, laidKinds := [.data, .data, .data, .data, .sentinel, .sentinel, .pinned], laidTests := true, laidLooks := .later }
def ScriptOrderCardSaid : Prop := Claim7.holds Tryz.pinned (.plain (OpenSpec.ofChange scriptOrderSpec)) scriptOrderCard

/-- THE TIED CARD OF 'scholiumlaw26.DeskUndoes'. -/
def deskUndoesCard : Claim7 := { stood := { row := deskUndoesRow, standIns := [], harness := (true, "a045a2285fb669802a0191ede838dad202bd3abf3cf31f9865d8bf6e21c12124"), looks := true }, kinds := [], alts := [], laidByText := true, laidKinds := [.data, .data, .data, .data, .sentinel, .sentinel, .pinned], laidTests := true, laidLooks := .later }
def DeskUndoesCardSaid : Prop := Claim7.holds Tryz.pinned (.plain (OpenSpec.ofChange deskUndoesSpec)) deskUndoesCard

/-- THE SECOND FORM's CARD OF 'scholiumtop.TopMoves'. -/
def topMovesUptoCard : Claim7 := { stood := { row := topMovesUptoRow, standIns := [], harness := (true, "a045a2285fb669802a0191ede838dad202bd3abf3cf31f9865d8bf6e21c12124"), looks := true }, kinds := [], alts := [], laidByText := true, laidKinds := [.data, .data, .data, .data, .sentinel, .sentinel, .pinned], laidTests := true, laidLooks := .later }
def TopMovesUptoCardSaid : Prop := Claim7.holds Tryz.pinned (.plain (OpenSpec.upto topMovesSpec)) topMovesUptoCard

/-- THE SECOND FORM's CARD OF 'scholiumlaw24.ScriptOrder'. -/
def scriptOrderUptoCard : Claim7 := { stood := { row := scriptOrderUptoRow, standIns := [], harness := (true, "a045a2285fb669802a0191ede838dad202bd3abf3cf31f9865d8bf6e21c12124"), looks := true }, kinds := [], alts := [], laidByText := true, laidKinds := [.data, .data, .data, .data, .sentinel, .sentinel, .pinned], laidTests := true, laidLooks := .later }
def ScriptOrderUptoCardSaid : Prop := Claim7.holds Tryz.pinned (.plain (OpenSpec.upto scriptOrderSpec)) scriptOrderUptoCard

/-- THE SECOND FORM's CARD OF 'scholiumlaw26.DeskUndoes'. -/
def deskUndoesUptoCard : Claim7 := { stood := { row := deskUndoesUptoRow, standIns := [], harness := (true, "a045a2285fb669802a0191ede838dad202bd3abf3cf31f9865d8bf6e21c12124"), looks := true }, kinds := [], alts := [], laidByText := true, laidKinds := [.data, .data, .data, .data, .sentinel, .sentinel, .pinned], laidTests := true, laidLooks := .later }
def DeskUndoesUptoCardSaid : Prop := Claim7.holds Tryz.pinned (.plain (OpenSpec.upto deskUndoesSpec)) deskUndoesUptoCard
end Rows
end Go.Proofs.YtjnpggeibjbfmaaGreatDoor
