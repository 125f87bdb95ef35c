/- TopAliases: the card's closed facts, one by one. -/
import Derived.Test.YtlcnjeiblniikaaGreatDoorRows
import Derived.Test.YtlcnjeiblniikaaGreatDoorChecked
import Derived.JoinedOf
import Derived.SevenTiedAt
import Derived.KernelRfl
namespace Go.Proofs.YtlcnjeiblniikaaGreatDoor.topAliasesFacts
set_option maxRecDepth 100000
theorem k_wf : Rows.topAliasesRow.wfByText (OpenSpec.ofChange Rows.topAliasesSpec) = true := by kernel_rfl
theorem k_main : Tryz.prog.mainIs = some (true, "872e7e9e83b331202171db91bfd25c509db058e02a66e18611991899d5ea4b97".toList) := by kernel_rfl
theorem k_looks : true = Tryz.prog.looks [] := by kernel_rfl
theorem k_goes : false = Rows.topAliasesRow.goesBy Tryz.prog := by kernel_rfl
theorem k_named : Tryz.prog.funcNamed "scholium/scholiumtop.TopAliases" = some 11 := by kernel_rfl
theorem k_wants : Tryz.prog.wantsStandIn 3 = false := by kernel_rfl
theorem k_wants4 : Tryz.prog.wantsStandIn 4 = false := by kernel_rfl
end Go.Proofs.YtlcnjeiblniikaaGreatDoor.topAliasesFacts
