/- ScriptOrder: some edits of the table, turned by the kernel. -/
import Derived.Test.YtjnpggeibjbfmaaGreatDoorOrd1
namespace Go.Proofs.YtjnpggeibjbfmaaGreatDoor.OrdF
open Go.Vai
set_option linter.unusedVariables false
set_option maxRecDepth 1000000
theorem e12 : entB cl0 21 en12 = true := by decide +kernel
theorem e13 : entB cl0 21 en13 = true := by decide +kernel
theorem e14 : entB cl0 21 en14 = true := by decide +kernel
theorem e15 : entB cl0 21 en15 = true := by decide +kernel
end Go.Proofs.YtjnpggeibjbfmaaGreatDoor.OrdF
