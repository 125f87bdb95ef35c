/- ScriptLong: the tied card. -/
import Derived.Test.YtbndnhkhphkjgaaGreatDoorRows
import Derived.Test.YtbndnhkhphkjgaaGreatDoorTie
import Derived.Test.YtbndnhkhphkjgaaGreatDoorCards
import Derived.Test.YtbndnhkhphkjgaaGreatDoorSlongRow
import Derived.Test.YtbndnhkhphkjgaaGreatDoorSlongFactsK
import Derived.ProofKit
import Derived.LaidMore
import Derived.SevenTiedAt
namespace Go.Proofs.YtbndnhkhphkjgaaGreatDoor.scriptLong
open Go.ChangeShapes Go.WideShapes Go.ChangeAt Go.RowKit
set_option linter.unusedVariables false
set_option maxRecDepth 100000
theorem card_holds : Rows.ScriptLongCardSaid :=
  Claim7.holds_tied_plain_at .later [] [.data, .data, .data, .data, .sentinel, .sentinel, .pinned] true (true, "1eeda99793e10407194d64da6f0027ea9a8dc504e1dd2aac329312a850d7e690") true
    row_holds (fun _ h => by cases h) scriptLongFacts.k_wf (fun _ h => by cases h) scriptLong_row_tie rfl ⟨rfl, rfl⟩ scriptLongFacts.k_main rfl
    (fun f fn hf hfn => by
      obtain rfl : f = 7 := Option.some.inj (scriptLongFacts.k_named.symm.trans hf) |>.symm
      obtain rfl : fn = Tryz.f7 := (Option.some.inj (Tryz.func7.symm.trans hfn)).symm
      exact ⟨scriptLongFacts.k_looks, fun j t ht => by
        rw [Tryz.params7] at ht
        rcases j with _ | j
        · have h3 : t = 3 := by simpa using ht.symm
          subst h3
          exact scriptLongFacts.k_wants3
        · simp at ht⟩)
    scriptLongFacts.k_goes
end Go.Proofs.YtbndnhkhphkjgaaGreatDoor.scriptLong
namespace Go.Proofs.YtbndnhkhphkjgaaGreatDoor
/-- The card, under a short name, for the claim. -/
theorem scriptLong_holds : Rows.ScriptLongCardSaid := scriptLong.card_holds
#print axioms scriptLong_holds
end Go.Proofs.YtbndnhkhphkjgaaGreatDoor
