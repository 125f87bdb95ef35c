/- EditErrors: the card's closed facts, one by one. -/
import Derived.Test.YtbndnhkhphkjgaaGreatDoorRows
import Derived.Test.YtbndnhkhphkjgaaGreatDoorChecked
import Derived.JoinedOf
import Derived.SevenTiedAt
import Derived.KernelRfl
namespace Go.Proofs.YtbndnhkhphkjgaaGreatDoor.editErrorsFacts
set_option maxRecDepth 100000
theorem k_wf : Rows.editErrorsRow.wfByText (OpenSpec.ofChange Rows.editErrorsSpec) = true := by kernel_rfl
theorem k_main : Tryz.prog.mainIs = some (true, "1eeda99793e10407194d64da6f0027ea9a8dc504e1dd2aac329312a850d7e690".toList) := by kernel_rfl
theorem k_looks : true = Tryz.prog.looks [] := by kernel_rfl
theorem k_goes : false = Rows.editErrorsRow.goesBy Tryz.prog := by kernel_rfl
theorem k_named : Tryz.prog.funcNamed "scholium/scholiumlaw23.EditErrors" = some 3 := by kernel_rfl
theorem k_wants3 : Tryz.prog.wantsStandIn 3 = false := by kernel_rfl
end Go.Proofs.YtbndnhkhphkjgaaGreatDoor.editErrorsFacts
