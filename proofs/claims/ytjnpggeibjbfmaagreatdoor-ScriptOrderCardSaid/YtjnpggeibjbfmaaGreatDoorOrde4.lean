/- ScriptOrder: some edits of the table, turned by the kernel. -/
import Derived.Test.YtjnpggeibjbfmaaGreatDoorOrd1
namespace Go.Proofs.YtjnpggeibjbfmaaGreatDoor.OrdF
open Go.Vai
set_option linter.unusedVariables false
set_option maxRecDepth 1000000
theorem e16 : entB cl0 21 en16 = true := by decide +kernel
theorem e17 : entB cl0 21 en17 = true := by decide +kernel
theorem e18 : entB cl0 21 en18 = true := by decide +kernel
theorem e19 : entB cl0 21 en19 = true := by decide +kernel
end Go.Proofs.YtjnpggeibjbfmaaGreatDoor.OrdF
