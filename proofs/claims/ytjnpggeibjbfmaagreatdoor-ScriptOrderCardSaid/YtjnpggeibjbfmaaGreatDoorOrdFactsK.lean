/- ScriptOrder: the card's closed facts, one by one. -/
import Derived.Test.YtjnpggeibjbfmaaGreatDoorRows
import Derived.Test.YtjnpggeibjbfmaaGreatDoorChecked
import Derived.JoinedOf
import Derived.SevenTiedAt
import Derived.KernelRfl
namespace Go.Proofs.YtjnpggeibjbfmaaGreatDoor.scriptOrderFacts
set_option maxRecDepth 100000
theorem k_wf : Rows.scriptOrderRow.wfByText (OpenSpec.ofChange Rows.scriptOrderSpec) = true := by kernel_rfl
theorem k_main : Tryz.prog.mainIs = some (true, "a045a2285fb669802a0191ede838dad202bd3abf3cf31f9865d8bf6e21c12124".toList) := by kernel_rfl
theorem k_looks : true = Tryz.prog.looks [] := by kernel_rfl
theorem k_goes : false = Rows.scriptOrderRow.goesBy Tryz.prog := by kernel_rfl
theorem k_named : Tryz.prog.funcNamed "scholium/scholiumlaw24.ScriptOrder" = some 4 := by kernel_rfl
theorem k_wants3 : Tryz.prog.wantsStandIn 3 = false := by kernel_rfl
theorem k_wants38 : Tryz.prog.wantsStandIn 38 = false := by kernel_rfl
end Go.Proofs.YtjnpggeibjbfmaaGreatDoor.scriptOrderFacts
