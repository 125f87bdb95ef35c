/- EditInserts: the card's closed facts, one by one. -/
import Derived.Test.YtbndnhkhphkjgaaGreatDoorRows
import Derived.Test.YtbndnhkhphkjgaaGreatDoorChecked
import Derived.JoinedOf
import Derived.SevenTiedAt
import Derived.KernelRfl
namespace Go.Proofs.YtbndnhkhphkjgaaGreatDoor.editInsertsFacts
set_option maxRecDepth 100000
theorem k_wf : Rows.editInsertsRow.wfByText (OpenSpec.ofChange Rows.editInsertsSpec) = true := by kernel_rfl
theorem k_main : Tryz.prog.mainIs = some (true, "1eeda99793e10407194d64da6f0027ea9a8dc504e1dd2aac329312a850d7e690".toList) := by kernel_rfl
theorem k_looks : true = Tryz.prog.looks [] := by kernel_rfl
theorem k_goes : false = Rows.editInsertsRow.goesBy Tryz.prog := by kernel_rfl
theorem k_named : Tryz.prog.funcNamed "scholium/scholiumlaw23.EditInserts" = some 5 := by kernel_rfl
theorem k_wants3 : Tryz.prog.wantsStandIn 3 = false := by kernel_rfl
end Go.Proofs.YtbndnhkhphkjgaaGreatDoor.editInsertsFacts
