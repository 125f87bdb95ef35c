/- TopMoves: some closed runs, turned by the kernel. -/
import Derived.Test.YtjnpggeibjbfmaaGreatDoorMov1
namespace Go.Proofs.YtjnpggeibjbfmaaGreatDoor.MovF
open Go.Vai
set_option linter.unusedVariables false
set_option maxRecDepth 1000000
theorem eb4 : (entB cl0 21 d31t && (entB cl0 21 d32t)) = true := by decide +kernel
theorem dk31t : entB cl0 21 d31t = true := and_l eb4
theorem dk32t : entB cl0 21 d32t = true := (and_r eb4)
theorem eb5 : (entB cl0 21 d40f) = true := by decide +kernel
theorem dk40f : entB cl0 21 d40f = true := eb5
theorem eb6 : (entB cl0 21 d41f) = true := by decide +kernel
theorem dk41f : entB cl0 21 d41f = true := eb6
theorem eb7 : (entB cl0 21 d42f) = true := by decide +kernel
theorem dk42f : entB cl0 21 d42f = true := eb7
end Go.Proofs.YtjnpggeibjbfmaaGreatDoor.MovF
