/- ScriptOrder: some edits of the table, turned by the kernel. -/
import Derived.Test.YtjnpggeibjbfmaaGreatDoorOrd1
namespace Go.Proofs.YtjnpggeibjbfmaaGreatDoor.OrdF
open Go.Vai
set_option linter.unusedVariables false
set_option maxRecDepth 1000000
theorem e4 : entB cl0 21 en4 = true := by decide +kernel
theorem e5 : entB cl0 21 en5 = true := by decide +kernel
theorem e6 : entB cl0 21 en6 = true := by decide +kernel
theorem e7 : entB cl0 21 en7 = true := by decide +kernel
end Go.Proofs.YtjnpggeibjbfmaaGreatDoor.OrdF
