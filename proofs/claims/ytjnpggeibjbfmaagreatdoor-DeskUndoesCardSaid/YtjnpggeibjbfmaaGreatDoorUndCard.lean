/- DeskUndoes: the tied card. -/
import Derived.Test.YtjnpggeibjbfmaaGreatDoorRows
import Derived.Test.YtjnpggeibjbfmaaGreatDoorTie
import Derived.Test.YtjnpggeibjbfmaaGreatDoorCards
import Derived.Test.YtjnpggeibjbfmaaGreatDoorUndRow
import Derived.Test.YtjnpggeibjbfmaaGreatDoorUndFactsK
import Derived.ProofKit
import Derived.LaidMore
import Derived.SevenTiedAt
namespace Go.Proofs.YtjnpggeibjbfmaaGreatDoor.deskUndoes
open Go.ChangeShapes Go.WideShapes Go.ChangeAt Go.RowKit
set_option linter.unusedVariables false
set_option maxRecDepth 100000
theorem card_holds : Rows.DeskUndoesCardSaid :=
  Claim7.holds_tied_plain_at .later [] [.data, .data, .data, .data, .sentinel, .sentinel, .pinned] true (true, "a045a2285fb669802a0191ede838dad202bd3abf3cf31f9865d8bf6e21c12124") true
    row_holds (fun _ h => by cases h) deskUndoesFacts.k_wf (fun _ h => by cases h) deskUndoes_row_tie rfl ⟨rfl, rfl⟩ deskUndoesFacts.k_main rfl
    (fun f fn hf hfn => by
      obtain rfl : f = 5 := Option.some.inj (deskUndoesFacts.k_named.symm.trans hf) |>.symm
      obtain rfl : fn = Tryz.f5 := (Option.some.inj (Tryz.func5.symm.trans hfn)).symm
      exact ⟨deskUndoesFacts.k_looks, fun j t ht => by
        rw [Tryz.params5] at ht
        rcases j with _ | j
        · have h3 : t = 38 := by simpa using ht.symm
          subst h3
          exact deskUndoesFacts.k_wants38
        · simp at ht⟩)
    deskUndoesFacts.k_goes
end Go.Proofs.YtjnpggeibjbfmaaGreatDoor.deskUndoes
namespace Go.Proofs.YtjnpggeibjbfmaaGreatDoor
/-- The card, under a short name, for the claim. -/
theorem deskUndoes_holds : Rows.DeskUndoesCardSaid := deskUndoes.card_holds
#print axioms deskUndoes_holds
end Go.Proofs.YtjnpggeibjbfmaaGreatDoor
