/- EditErrors: the tied card. -/
import Derived.Test.YtbndnhkhphkjgaaGreatDoorRows
import Derived.Test.YtbndnhkhphkjgaaGreatDoorTie
import Derived.Test.YtbndnhkhphkjgaaGreatDoorCards
import Derived.Test.YtbndnhkhphkjgaaGreatDoorErrsRow
import Derived.Test.YtbndnhkhphkjgaaGreatDoorErrsFactsK
import Derived.ProofKit
import Derived.LaidMore
import Derived.SevenTiedAt
namespace Go.Proofs.YtbndnhkhphkjgaaGreatDoor.editErrors
open Go.ChangeShapes Go.WideShapes Go.ChangeAt Go.RowKit
set_option linter.unusedVariables false
set_option maxRecDepth 100000
theorem card_holds : Rows.EditErrorsCardSaid :=
  Claim7.holds_tied_plain_at .later [] [.data, .data, .data, .data, .sentinel, .sentinel, .pinned] true (true, "1eeda99793e10407194d64da6f0027ea9a8dc504e1dd2aac329312a850d7e690") true
    row_holds (fun _ h => by cases h) editErrorsFacts.k_wf (fun _ h => by cases h) editErrors_row_tie rfl ⟨rfl, rfl⟩ editErrorsFacts.k_main rfl
    (fun f fn hf hfn => by
      obtain rfl : f = 3 := Option.some.inj (editErrorsFacts.k_named.symm.trans hf) |>.symm
      obtain rfl : fn = Tryz.f3 := (Option.some.inj (Tryz.func3.symm.trans hfn)).symm
      exact ⟨editErrorsFacts.k_looks, fun j t ht => by
        rw [Tryz.params3] at ht
        rcases j with _ | j
        · have h3 : t = 3 := by simpa using ht.symm
          subst h3
          exact editErrorsFacts.k_wants3
        · simp at ht⟩)
    editErrorsFacts.k_goes
end Go.Proofs.YtbndnhkhphkjgaaGreatDoor.editErrors
namespace Go.Proofs.YtbndnhkhphkjgaaGreatDoor
/-- The card, under a short name, for the claim. -/
theorem editErrors_holds : Rows.EditErrorsCardSaid := editErrors.card_holds
#print axioms editErrors_holds
end Go.Proofs.YtbndnhkhphkjgaaGreatDoor
