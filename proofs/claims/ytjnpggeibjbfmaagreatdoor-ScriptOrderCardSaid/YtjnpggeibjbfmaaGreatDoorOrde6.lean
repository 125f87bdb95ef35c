/- ScriptOrder: some edits of the table, turned by the kernel. -/
import Derived.Test.YtjnpggeibjbfmaaGreatDoorOrd1
namespace Go.Proofs.YtjnpggeibjbfmaaGreatDoor.OrdF
open Go.Vai
set_option linter.unusedVariables false
set_option maxRecDepth 1000000
theorem e24 : entB cl0 21 en24 = true := by decide +kernel
theorem e25 : entB cl0 21 en25 = true := by decide +kernel
theorem e26 : entB cl0 21 en26 = true := by decide +kernel
theorem e27 : entB cl0 21 en27 = true := by decide +kernel
end Go.Proofs.YtjnpggeibjbfmaaGreatDoor.OrdF
