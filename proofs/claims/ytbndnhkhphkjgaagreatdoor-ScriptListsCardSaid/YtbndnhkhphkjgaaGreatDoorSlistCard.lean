/- ScriptLists: the tied card. -/
import Derived.Test.YtbndnhkhphkjgaaGreatDoorRows
import Derived.Test.YtbndnhkhphkjgaaGreatDoorTie
import Derived.Test.YtbndnhkhphkjgaaGreatDoorCards
import Derived.Test.YtbndnhkhphkjgaaGreatDoorSlistRow
import Derived.Test.YtbndnhkhphkjgaaGreatDoorSlistFactsK
import Derived.ProofKit
import Derived.LaidMore
import Derived.SevenTiedAt
namespace Go.Proofs.YtbndnhkhphkjgaaGreatDoor.scriptLists
open Go.ChangeShapes Go.WideShapes Go.ChangeAt Go.RowKit
set_option linter.unusedVariables false
set_option maxRecDepth 100000
theorem card_holds : Rows.ScriptListsCardSaid :=
  Claim7.holds_tied_plain_at .later [] [.data, .data, .data, .data, .sentinel, .sentinel, .pinned] true (true, "1eeda99793e10407194d64da6f0027ea9a8dc504e1dd2aac329312a850d7e690") true
    row_holds (fun _ h => by cases h) scriptListsFacts.k_wf (fun _ h => by cases h) scriptLists_row_tie rfl ⟨rfl, rfl⟩ scriptListsFacts.k_main rfl
    (fun f fn hf hfn => by
      obtain rfl : f = 6 := Option.some.inj (scriptListsFacts.k_named.symm.trans hf) |>.symm
      obtain rfl : fn = Tryz.f6 := (Option.some.inj (Tryz.func6.symm.trans hfn)).symm
      exact ⟨scriptListsFacts.k_looks, fun j t ht => by
        rw [Tryz.params6] at ht
        rcases j with _ | _ | j
        · have h3 : t = 3 := by simpa using ht.symm
          subst h3
          exact scriptListsFacts.k_wants3
        · have h3 : t = 4 := by simpa using ht.symm
          subst h3
          exact scriptListsFacts.k_wants4
        · simp at ht⟩)
    scriptListsFacts.k_goes
end Go.Proofs.YtbndnhkhphkjgaaGreatDoor.scriptLists
namespace Go.Proofs.YtbndnhkhphkjgaaGreatDoor
/-- The card, under a short name, for the claim. -/
theorem scriptLists_holds : Rows.ScriptListsCardSaid := scriptLists.card_holds
#print axioms scriptLists_holds
end Go.Proofs.YtbndnhkhphkjgaaGreatDoor
