/- TopAliases: the tied card. -/
import Derived.Test.YtlcnjeiblniikaaGreatDoorRows
import Derived.Test.YtlcnjeiblniikaaGreatDoorTie
import Derived.Test.YtlcnjeiblniikaaGreatDoorCards
import Derived.Test.YtlcnjeiblniikaaGreatDoorTopRow
import Derived.Test.YtlcnjeiblniikaaGreatDoorTopFactsK
import Derived.ProofKit
import Derived.LaidMore
import Derived.SevenTiedAt
namespace Go.Proofs.YtlcnjeiblniikaaGreatDoor.topAliases
open Go.ChangeShapes Go.WideShapes Go.ChangeAt Go.RowKit
set_option linter.unusedVariables false
set_option maxRecDepth 100000
theorem card_holds : Rows.TopAliasesCardSaid :=
  Claim7.holds_tied_plain_at .later [] [.data, .data, .data, .data, .sentinel, .sentinel, .pinned] true (true, "872e7e9e83b331202171db91bfd25c509db058e02a66e18611991899d5ea4b97") true
    row_holds (fun _ h => by cases h) topAliasesFacts.k_wf (fun _ h => by cases h) topAliases_row_tie rfl ⟨rfl, rfl⟩ topAliasesFacts.k_main rfl
    (fun f fn hf hfn => by
      obtain rfl : f = 11 := Option.some.inj (topAliasesFacts.k_named.symm.trans hf) |>.symm
      obtain rfl : fn = Tryz.f11 := (Option.some.inj (Tryz.func11.symm.trans hfn)).symm
      exact ⟨topAliasesFacts.k_looks, fun j t ht => by
        rw [Tryz.params11] at ht
        rcases j with _ | _ | j
        · have h3 : t = 3 := by simpa using ht.symm
          subst h3
          exact topAliasesFacts.k_wants
        · have h3 : t = 4 := by simpa using ht.symm
          subst h3
          exact topAliasesFacts.k_wants4
        · simp at ht⟩)
    topAliasesFacts.k_goes
end Go.Proofs.YtlcnjeiblniikaaGreatDoor.topAliases
namespace Go.Proofs.YtlcnjeiblniikaaGreatDoor
/-- The card, under a short name, for the claim. -/
theorem topAliases_holds : Rows.TopAliasesCardSaid := topAliases.card_holds
#print axioms topAliases_holds
end Go.Proofs.YtlcnjeiblniikaaGreatDoor
