/- TopMoves: the tied card. -/
import Derived.Test.YtjnpggeibjbfmaaGreatDoorRows
import Derived.Test.YtjnpggeibjbfmaaGreatDoorTie
import Derived.Test.YtjnpggeibjbfmaaGreatDoorCards
import Derived.Test.YtjnpggeibjbfmaaGreatDoorMovRow
import Derived.Test.YtjnpggeibjbfmaaGreatDoorMovFactsK
import Derived.ProofKit
import Derived.LaidMore
import Derived.SevenTiedAt
namespace Go.Proofs.YtjnpggeibjbfmaaGreatDoor.topMoves
open Go.ChangeShapes Go.WideShapes Go.ChangeAt Go.RowKit
set_option linter.unusedVariables false
set_option maxRecDepth 100000
theorem card_holds : Rows.TopMovesCardSaid :=
  Claim7.holds_tied_plain_at .later [] [.data, .data, .data, .data, .sentinel, .sentinel, .pinned] true (true, "a045a2285fb669802a0191ede838dad202bd3abf3cf31f9865d8bf6e21c12124") true
    row_holds (fun _ h => by cases h) topMovesFacts.k_wf (fun _ h => by cases h) topMoves_row_tie rfl ⟨rfl, rfl⟩ topMovesFacts.k_main rfl
    (fun f fn hf hfn => by
      obtain rfl : f = 3 := Option.some.inj (topMovesFacts.k_named.symm.trans hf) |>.symm
      obtain rfl : fn = Tryz.f3 := (Option.some.inj (Tryz.func3.symm.trans hfn)).symm
      exact ⟨topMovesFacts.k_looks, fun j t ht => by
        rw [Tryz.params3] at ht
        rcases j with _ | _ | _ | _ | j
        · have h3 : t = 3 := by simpa using ht.symm
          subst h3
          exact topMovesFacts.k_wants3
        · have h3 : t = 3 := by simpa using ht.symm
          subst h3
          exact topMovesFacts.k_wants3
        · have h3 : t = 3 := by simpa using ht.symm
          subst h3
          exact topMovesFacts.k_wants3
        · have h3 : t = 4 := by simpa using ht.symm
          subst h3
          exact topMovesFacts.k_wants4
        · simp at ht⟩)
    topMovesFacts.k_goes
end Go.Proofs.YtjnpggeibjbfmaaGreatDoor.topMoves
namespace Go.Proofs.YtjnpggeibjbfmaaGreatDoor
/-- The card, under a short name, for the claim. -/
theorem topMoves_holds : Rows.TopMovesCardSaid := topMoves.card_holds
#print axioms topMoves_holds
end Go.Proofs.YtjnpggeibjbfmaaGreatDoor
