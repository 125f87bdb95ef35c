/- DeskUndoes: the card's closed facts, one by one. -/
import Derived.Test.YtjnpggeibjbfmaaGreatDoorRows
import Derived.Test.YtjnpggeibjbfmaaGreatDoorChecked
import Derived.JoinedOf
import Derived.SevenTiedAt
import Derived.KernelRfl
namespace Go.Proofs.YtjnpggeibjbfmaaGreatDoor.deskUndoesFacts
set_option maxRecDepth 100000
theorem k_wf : Rows.deskUndoesRow.wfByText (OpenSpec.ofChange Rows.deskUndoesSpec) = true := by kernel_rfl
theorem k_main : Tryz.prog.mainIs = some (true, "a045a2285fb669802a0191ede838dad202bd3abf3cf31f9865d8bf6e21c12124".toList) := by kernel_rfl
theorem k_looks : true = Tryz.prog.looks [] := by kernel_rfl
theorem k_goes : false = Rows.deskUndoesRow.goesBy Tryz.prog := by kernel_rfl
theorem k_named : Tryz.prog.funcNamed "scholium/scholiumlaw26.DeskUndoes" = some 5 := by kernel_rfl
theorem k_wants38 : Tryz.prog.wantsStandIn 38 = false := by kernel_rfl
end Go.Proofs.YtjnpggeibjbfmaaGreatDoor.deskUndoesFacts
