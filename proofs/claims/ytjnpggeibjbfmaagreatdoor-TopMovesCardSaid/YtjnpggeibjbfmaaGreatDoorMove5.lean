/- TopMoves: some closed runs, turned by the kernel. -/
import Derived.Test.YtjnpggeibjbfmaaGreatDoorMov1
namespace Go.Proofs.YtjnpggeibjbfmaaGreatDoor.MovF
open Go.Vai
set_option linter.unusedVariables false
set_option maxRecDepth 1000000
theorem eb20 : (entB cl0 21 d61f) = true := by decide +kernel
theorem dk61f : entB cl0 21 d61f = true := eb20
theorem eb21 : (entB cl0 21 d62f) = true := by decide +kernel
theorem dk62f : entB cl0 21 d62f = true := eb21
theorem eb22 : (entB cl0 21 d63f) = true := by decide +kernel
theorem dk63f : entB cl0 21 d63f = true := eb22
theorem eb23 : (entB cl0 21 d64f) = true := by decide +kernel
theorem dk64f : entB cl0 21 d64f = true := eb23
end Go.Proofs.YtjnpggeibjbfmaaGreatDoor.MovF
