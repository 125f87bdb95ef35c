/- DeskFinds: the tied card. -/
import Derived.Test.YtlcnjeiblniikaaGreatDoorRows
import Derived.Test.YtlcnjeiblniikaaGreatDoorTie
import Derived.Test.YtlcnjeiblniikaaGreatDoorCards
import Derived.Test.YtlcnjeiblniikaaGreatDoorDeskRow
import Derived.Test.YtlcnjeiblniikaaGreatDoorDeskFactsK
import Derived.ProofKit
import Derived.LaidMore
import Derived.SevenTiedAt
namespace Go.Proofs.YtlcnjeiblniikaaGreatDoor.deskFinds
open Go.ChangeShapes Go.WideShapes Go.ChangeAt Go.RowKit
set_option linter.unusedVariables false
set_option maxRecDepth 100000
theorem card_holds : Rows.DeskFindsCardSaid :=
  Claim7.holds_tied_plain_at .later [] [.data, .data, .data, .data, .sentinel, .sentinel, .pinned] true (true, "872e7e9e83b331202171db91bfd25c509db058e02a66e18611991899d5ea4b97") true
    row_holds (fun _ h => by cases h) deskFindsFacts.k_wf (fun _ h => by cases h) deskFinds_row_tie rfl ⟨rfl, rfl⟩ deskFindsFacts.k_main rfl
    (fun f fn hf hfn => by
      obtain rfl : f = 3 := Option.some.inj (deskFindsFacts.k_named.symm.trans hf) |>.symm
      obtain rfl : fn = Tryz.f3 := (Option.some.inj (Tryz.func3.symm.trans hfn)).symm
      exact ⟨deskFindsFacts.k_looks, fun j t ht => by
        rw [Tryz.params3] at ht
        have h3 : t = 3 := by
          rcases j with _ | j
          · simpa using ht.symm
          · simp at ht
        subst h3
        exact deskFindsFacts.k_wants⟩)
    deskFindsFacts.k_goes
end Go.Proofs.YtlcnjeiblniikaaGreatDoor.deskFinds
namespace Go.Proofs.YtlcnjeiblniikaaGreatDoor
/-- The card, under a short name, for the claim. -/
theorem deskFinds_holds : Rows.DeskFindsCardSaid := deskFinds.card_holds
#print axioms deskFinds_holds
end Go.Proofs.YtlcnjeiblniikaaGreatDoor
