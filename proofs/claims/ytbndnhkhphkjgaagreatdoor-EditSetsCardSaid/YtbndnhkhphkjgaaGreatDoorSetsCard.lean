/- EditSets: the tied card. -/
import Derived.Test.YtbndnhkhphkjgaaGreatDoorRows
import Derived.Test.YtbndnhkhphkjgaaGreatDoorTie
import Derived.Test.YtbndnhkhphkjgaaGreatDoorCards
import Derived.Test.YtbndnhkhphkjgaaGreatDoorSetsRow
import Derived.Test.YtbndnhkhphkjgaaGreatDoorSetsFactsK
import Derived.ProofKit
import Derived.LaidMore
import Derived.SevenTiedAt
namespace Go.Proofs.YtbndnhkhphkjgaaGreatDoor.editSets
open Go.ChangeShapes Go.WideShapes Go.ChangeAt Go.RowKit
set_option linter.unusedVariables false
set_option maxRecDepth 100000
theorem card_holds : Rows.EditSetsCardSaid :=
  Claim7.holds_tied_plain_at .later [] [.data, .data, .data, .data, .sentinel, .sentinel, .pinned] true (true, "1eeda99793e10407194d64da6f0027ea9a8dc504e1dd2aac329312a850d7e690") true
    row_holds (fun _ h => by cases h) editSetsFacts.k_wf (fun _ h => by cases h) editSets_row_tie rfl ⟨rfl, rfl⟩ editSetsFacts.k_main rfl
    (fun f fn hf hfn => by
      obtain rfl : f = 4 := Option.some.inj (editSetsFacts.k_named.symm.trans hf) |>.symm
      obtain rfl : fn = Tryz.f4 := (Option.some.inj (Tryz.func4.symm.trans hfn)).symm
      exact ⟨editSetsFacts.k_looks, fun j t ht => by
        rw [Tryz.params4] at ht
        have h3 : t = 3 := by
          rcases j with _ | j
          · simpa using ht.symm
          · simp at ht
        subst h3
        exact editSetsFacts.k_wants⟩)
    editSetsFacts.k_goes
end Go.Proofs.YtbndnhkhphkjgaaGreatDoor.editSets
namespace Go.Proofs.YtbndnhkhphkjgaaGreatDoor
/-- The card, under a short name, for the claim. -/
theorem editSets_holds : Rows.EditSetsCardSaid := editSets.card_holds
#print axioms editSets_holds
end Go.Proofs.YtbndnhkhphkjgaaGreatDoor
