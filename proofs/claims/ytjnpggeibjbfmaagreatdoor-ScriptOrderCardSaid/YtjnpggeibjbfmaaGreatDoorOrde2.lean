/- ScriptOrder: some edits of the table, turned by the kernel. -/
import Derived.Test.YtjnpggeibjbfmaaGreatDoorOrd1
namespace Go.Proofs.YtjnpggeibjbfmaaGreatDoor.OrdF
open Go.Vai
set_option linter.unusedVariables false
set_option maxRecDepth 1000000
theorem e8 : entB cl0 21 en8 = true := by decide +kernel
theorem e9 : entB cl0 21 en9 = true := by decide +kernel
theorem e10 : entB cl0 21 en10 = true := by decide +kernel
theorem e11 : entB cl0 21 en11 = true := by decide +kernel
end Go.Proofs.YtjnpggeibjbfmaaGreatDoor.OrdF
