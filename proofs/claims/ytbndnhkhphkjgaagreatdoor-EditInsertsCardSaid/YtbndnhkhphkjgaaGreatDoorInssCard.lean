/- EditInserts: the tied card. -/
import Derived.Test.YtbndnhkhphkjgaaGreatDoorRows
import Derived.Test.YtbndnhkhphkjgaaGreatDoorTie
import Derived.Test.YtbndnhkhphkjgaaGreatDoorCards
import Derived.Test.YtbndnhkhphkjgaaGreatDoorInssRow
import Derived.Test.YtbndnhkhphkjgaaGreatDoorInssFactsK
import Derived.ProofKit
import Derived.LaidMore
import Derived.SevenTiedAt
namespace Go.Proofs.YtbndnhkhphkjgaaGreatDoor.editInserts
open Go.ChangeShapes Go.WideShapes Go.ChangeAt Go.RowKit
set_option linter.unusedVariables false
set_option maxRecDepth 100000
theorem card_holds : Rows.EditInsertsCardSaid :=
  Claim7.holds_tied_plain_at .later [] [.data, .data, .data, .data, .sentinel, .sentinel, .pinned] true (true, "1eeda99793e10407194d64da6f0027ea9a8dc504e1dd2aac329312a850d7e690") true
    row_holds (fun _ h => by cases h) editInsertsFacts.k_wf (fun _ h => by cases h) editInserts_row_tie rfl ⟨rfl, rfl⟩ editInsertsFacts.k_main rfl
    (fun f fn hf hfn => by
      obtain rfl : f = 5 := Option.some.inj (editInsertsFacts.k_named.symm.trans hf) |>.symm
      obtain rfl : fn = Tryz.f5 := (Option.some.inj (Tryz.func5.symm.trans hfn)).symm
      exact ⟨editInsertsFacts.k_looks, fun j t ht => by
        rw [Tryz.params5] at ht
        rcases j with _ | j
        · have h3 : t = 3 := by simpa using ht.symm
          subst h3
          exact editInsertsFacts.k_wants3
        · simp at ht⟩)
    editInsertsFacts.k_goes
end Go.Proofs.YtbndnhkhphkjgaaGreatDoor.editInserts
namespace Go.Proofs.YtbndnhkhphkjgaaGreatDoor
/-- The card, under a short name, for the claim. -/
theorem editInserts_holds : Rows.EditInsertsCardSaid := editInserts.card_holds
#print axioms editInserts_holds
end Go.Proofs.YtbndnhkhphkjgaaGreatDoor
