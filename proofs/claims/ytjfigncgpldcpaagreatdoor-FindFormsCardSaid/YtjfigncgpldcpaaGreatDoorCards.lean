/-
  DERIVED. GIVEN WITH THE SEED: THE CARDS: each row of YtjfigncgpldcpaaGreatDoorRows.lean that lists a variable, with what it lists TIED to the program's text (the seventh form; the later family's looks); each row that meets fmt, with fmt's text TOLD by the authors' own Lean function (tested against real Go, not proved from fmt's source: count such statements apart). THE CARD IS WHAT COUNTS. Prove the row's statement (the work); the ties are given (YtjfigncgpldcpaaGreatDoorTie.lean); close each card by the builder's one call (the guide's Derived/Test/ToyasCard.lean, 'card_holds'). Laid BY PROGRAM, IN A SANDBOX (cutbox-door.mjs). By AI agents, Wed Nov 11 2026. No macro, syntax, notation, axiom, sorry.
-/
import Derived.Test.YtjfigncgpldcpaaGreatDoorRows
import GoSem.ClaimSeven
namespace Go.Proofs.YtjfigncgpldcpaaGreatDoor
namespace Rows

/-- THE TIED CARD OF 'scholiumlaw21.FindForms'. -/
def findFormsCard : Claim7 := { stood := { row := findFormsRow, standIns := [], harness := (true, "d91632b2f685e8ba2db617b78cee09df720e5ecdf49f877e507b31bf3bc337ae"), looks := true }, kinds := [], alts := [], laidByText := true, laidKinds := [.data, .data, .data, .data, .sentinel, .sentinel, .pinned], laidTests := true, laidLooks := .later }
def FindFormsCardSaid : Prop := Claim7.holds Tryz.pinned (.plain (OpenSpec.ofChange findFormsSpec)) findFormsCard

/-- THE SECOND FORM's CARD OF 'scholiumlaw21.FindForms'. -/
def findFormsUptoCard : Claim7 := { stood := { row := findFormsUptoRow, standIns := [], harness := (true, "d91632b2f685e8ba2db617b78cee09df720e5ecdf49f877e507b31bf3bc337ae"), looks := true }, kinds := [], alts := [], laidByText := true, laidKinds := [.data, .data, .data, .data, .sentinel, .sentinel, .pinned], laidTests := true, laidLooks := .later }
def FindFormsUptoCardSaid : Prop := Claim7.holds Tryz.pinned (.plain (OpenSpec.upto findFormsSpec)) findFormsUptoCard
end Rows
end Go.Proofs.YtjfigncgpldcpaaGreatDoor
