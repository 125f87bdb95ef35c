/- TopMoves: some closed runs, turned by the kernel. -/
import Derived.Test.YtjnpggeibjbfmaaGreatDoorMov1
namespace Go.Proofs.YtjnpggeibjbfmaaGreatDoor.MovF
open Go.Vai
set_option linter.unusedVariables false
set_option maxRecDepth 1000000
theorem eb12 : (entB cl0 21 d51f) = true := by decide +kernel
theorem dk51f : entB cl0 21 d51f = true := eb12
theorem eb13 : (entB cl0 21 d52f) = true := by decide +kernel
theorem dk52f : entB cl0 21 d52f = true := eb13
theorem eb14 : (entB cl0 21 d53f) = true := by decide +kernel
theorem dk53f : entB cl0 21 d53f = true := eb14
theorem eb15 : (entB cl0 21 d54f) = true := by decide +kernel
theorem dk54f : entB cl0 21 d54f = true := eb15
end Go.Proofs.YtjnpggeibjbfmaaGreatDoor.MovF
