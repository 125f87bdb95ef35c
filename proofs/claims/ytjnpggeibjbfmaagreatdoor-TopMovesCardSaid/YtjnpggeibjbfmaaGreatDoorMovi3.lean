/- TopMoves: some closed runs, turned by the kernel. -/
import Derived.Test.YtjnpggeibjbfmaaGreatDoorMov1
namespace Go.Proofs.YtjnpggeibjbfmaaGreatDoor.MovF
open Go.Vai
set_option linter.unusedVariables false
set_option maxRecDepth 1000000
theorem ib15 : (entB cl0 21 i43t) = true := by decide +kernel
theorem ik43t : entB cl0 21 i43t = true := ib15
theorem ib16 : (entB cl0 21 i50f) = true := by decide +kernel
theorem ik50f : entB cl0 21 i50f = true := ib16
theorem ib17 : (entB cl0 21 i51f) = true := by decide +kernel
theorem ik51f : entB cl0 21 i51f = true := ib17
theorem ib18 : (entB cl0 21 i52f) = true := by decide +kernel
theorem ik52f : entB cl0 21 i52f = true := ib18
theorem ib19 : (entB cl0 21 i53f) = true := by decide +kernel
theorem ik53f : entB cl0 21 i53f = true := ib19
end Go.Proofs.YtjnpggeibjbfmaaGreatDoor.MovF
