/- ScriptOrder: some edits of the table, turned by the kernel. -/
import Derived.Test.YtjnpggeibjbfmaaGreatDoorOrd1
namespace Go.Proofs.YtjnpggeibjbfmaaGreatDoor.OrdF
open Go.Vai
set_option linter.unusedVariables false
set_option maxRecDepth 1000000
theorem e20 : entB cl0 21 en20 = true := by decide +kernel
theorem e21 : entB cl0 21 en21 = true := by decide +kernel
theorem e22 : entB cl0 21 en22 = true := by decide +kernel
theorem e23 : entB cl0 21 en23 = true := by decide +kernel
end Go.Proofs.YtjnpggeibjbfmaaGreatDoor.OrdF
