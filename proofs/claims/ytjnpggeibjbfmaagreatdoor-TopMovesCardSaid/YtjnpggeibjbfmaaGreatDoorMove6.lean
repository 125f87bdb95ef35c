/- TopMoves: some closed runs, turned by the kernel. -/
import Derived.Test.YtjnpggeibjbfmaaGreatDoorMov1
namespace Go.Proofs.YtjnpggeibjbfmaaGreatDoor.MovF
open Go.Vai
set_option linter.unusedVariables false
set_option maxRecDepth 1000000
theorem eb24 : (entB cl0 21 d65f) = true := by decide +kernel
theorem dk65f : entB cl0 21 d65f = true := eb24
theorem eb25 : (entB cl0 21 d60t) = true := by decide +kernel
theorem dk60t : entB cl0 21 d60t = true := eb25
theorem eb26 : (entB cl0 21 d61t) = true := by decide +kernel
theorem dk61t : entB cl0 21 d61t = true := eb26
theorem eb27 : (entB cl0 21 d62t) = true := by decide +kernel
theorem dk62t : entB cl0 21 d62t = true := eb27
end Go.Proofs.YtjnpggeibjbfmaaGreatDoor.MovF
