/- ScriptOrder: some edits of the table, turned by the kernel. -/
import Derived.Test.YtjnpggeibjbfmaaGreatDoorOrd1
namespace Go.Proofs.YtjnpggeibjbfmaaGreatDoor.OrdF
open Go.Vai
set_option linter.unusedVariables false
set_option maxRecDepth 1000000
theorem e28 : entB cl0 21 en28 = true := by decide +kernel
theorem e29 : entB cl0 21 en29 = true := by decide +kernel
theorem e30 : entB cl0 21 en30 = true := by decide +kernel
theorem e31 : entB cl0 21 en31 = true := by decide +kernel
end Go.Proofs.YtjnpggeibjbfmaaGreatDoor.OrdF
