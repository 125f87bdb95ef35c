/- ScriptOrder: some edits of the table, turned by the kernel. -/
import Derived.Test.YtjnpggeibjbfmaaGreatDoorOrd1
namespace Go.Proofs.YtjnpggeibjbfmaaGreatDoor.OrdF
open Go.Vai
set_option linter.unusedVariables false
set_option maxRecDepth 1000000
theorem e32 : entB cl0 21 en32 = true := by decide +kernel
theorem e33 : entB cl0 21 en33 = true := by decide +kernel
theorem e34 : entB cl0 21 en34 = true := by decide +kernel
theorem e35 : entB cl0 21 en35 = true := by decide +kernel
end Go.Proofs.YtjnpggeibjbfmaaGreatDoor.OrdF
