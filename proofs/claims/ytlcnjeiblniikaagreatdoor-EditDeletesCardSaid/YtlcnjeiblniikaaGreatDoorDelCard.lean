/- EditDeletes: the tied card. -/
import Derived.Test.YtlcnjeiblniikaaGreatDoorRows
import Derived.Test.YtlcnjeiblniikaaGreatDoorTie
import Derived.Test.YtlcnjeiblniikaaGreatDoorCards
import Derived.Test.YtlcnjeiblniikaaGreatDoorDelRow
import Derived.Test.YtlcnjeiblniikaaGreatDoorDelFactsK
import Derived.ProofKit
import Derived.LaidMore
import Derived.SevenTiedAt
namespace Go.Proofs.YtlcnjeiblniikaaGreatDoor.editDeletes
open Go.ChangeShapes Go.WideShapes Go.ChangeAt Go.RowKit
set_option linter.unusedVariables false
set_option maxRecDepth 100000
theorem card_holds : Rows.EditDeletesCardSaid :=
  Claim7.holds_tied_plain_at .later [] [.data, .data, .data, .data, .sentinel, .sentinel, .pinned] true (true, "872e7e9e83b331202171db91bfd25c509db058e02a66e18611991899d5ea4b97") true
    row_holds (fun _ h => by cases h) editDeletesFacts.k_wf (fun _ h => by cases h) editDeletes_row_tie rfl ⟨rfl, rfl⟩ editDeletesFacts.k_main rfl
    (fun f fn hf hfn => by
      obtain rfl : f = 5 := Option.some.inj (editDeletesFacts.k_named.symm.trans hf) |>.symm
      obtain rfl : fn = Tryz.f5 := (Option.some.inj (Tryz.func5.symm.trans hfn)).symm
      exact ⟨editDeletesFacts.k_looks, fun j t ht => by
        rw [Tryz.params5] at ht
        have h3 : t = 3 := by
          rcases j with _ | j
          · simpa using ht.symm
          · simp at ht
        subst h3
        exact editDeletesFacts.k_wants⟩)
    editDeletesFacts.k_goes
end Go.Proofs.YtlcnjeiblniikaaGreatDoor.editDeletes
namespace Go.Proofs.YtlcnjeiblniikaaGreatDoor
/-- The card, under a short name, for the claim. -/
theorem editDeletes_holds : Rows.EditDeletesCardSaid := editDeletes.card_holds
#print axioms editDeletes_holds
end Go.Proofs.YtlcnjeiblniikaaGreatDoor
