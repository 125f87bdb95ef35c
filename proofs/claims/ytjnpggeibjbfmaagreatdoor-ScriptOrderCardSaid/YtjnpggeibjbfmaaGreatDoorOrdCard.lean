/- ScriptOrder: the tied card. -/
import Derived.Test.YtjnpggeibjbfmaaGreatDoorRows
import Derived.Test.YtjnpggeibjbfmaaGreatDoorTie
import Derived.Test.YtjnpggeibjbfmaaGreatDoorCards
import Derived.Test.YtjnpggeibjbfmaaGreatDoorOrdRow
import Derived.Test.YtjnpggeibjbfmaaGreatDoorOrdFactsK
import Derived.ProofKit
import Derived.LaidMore
import Derived.SevenTiedAt
namespace Go.Proofs.YtjnpggeibjbfmaaGreatDoor.scriptOrder
open Go.ChangeShapes Go.WideShapes Go.ChangeAt Go.RowKit
set_option linter.unusedVariables false
set_option maxRecDepth 100000
theorem card_holds : Rows.ScriptOrderCardSaid :=
  Claim7.holds_tied_plain_at .later [] [.data, .data, .data, .data, .sentinel, .sentinel, .pinned] true (true, "a045a2285fb669802a0191ede838dad202bd3abf3cf31f9865d8bf6e21c12124") true
    row_holds (fun _ h => by cases h) scriptOrderFacts.k_wf (fun _ h => by cases h) scriptOrder_row_tie rfl ⟨rfl, rfl⟩ scriptOrderFacts.k_main rfl
    (fun f fn hf hfn => by
      obtain rfl : f = 4 := Option.some.inj (scriptOrderFacts.k_named.symm.trans hf) |>.symm
      obtain rfl : fn = Tryz.f4 := (Option.some.inj (Tryz.func4.symm.trans hfn)).symm
      exact ⟨scriptOrderFacts.k_looks, fun j t ht => by
        rw [Tryz.params4] at ht
        rcases j with _ | _ | j
        · have h3 : t = 38 := by simpa using ht.symm
          subst h3
          exact scriptOrderFacts.k_wants38
        · have h3 : t = 3 := by simpa using ht.symm
          subst h3
          exact scriptOrderFacts.k_wants3
        · simp at ht⟩)
    scriptOrderFacts.k_goes
end Go.Proofs.YtjnpggeibjbfmaaGreatDoor.scriptOrder
namespace Go.Proofs.YtjnpggeibjbfmaaGreatDoor
/-- The card, under a short name, for the claim. -/
theorem scriptOrder_holds : Rows.ScriptOrderCardSaid := scriptOrder.card_holds
#print axioms scriptOrder_holds
end Go.Proofs.YtjnpggeibjbfmaaGreatDoor
