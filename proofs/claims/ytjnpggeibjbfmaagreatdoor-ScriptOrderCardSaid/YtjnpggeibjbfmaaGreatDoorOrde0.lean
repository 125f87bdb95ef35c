/- ScriptOrder: some edits of the table, turned by the kernel. -/
import Derived.Test.YtjnpggeibjbfmaaGreatDoorOrd1
namespace Go.Proofs.YtjnpggeibjbfmaaGreatDoor.OrdF
open Go.Vai
set_option linter.unusedVariables false
set_option maxRecDepth 1000000
theorem e0 : entB cl0 21 en0 = true := by decide +kernel
theorem e1 : entB cl0 21 en1 = true := by decide +kernel
theorem e2 : entB cl0 21 en2 = true := by decide +kernel
theorem e3 : entB cl0 21 en3 = true := by decide +kernel
end Go.Proofs.YtjnpggeibjbfmaaGreatDoor.OrdF
