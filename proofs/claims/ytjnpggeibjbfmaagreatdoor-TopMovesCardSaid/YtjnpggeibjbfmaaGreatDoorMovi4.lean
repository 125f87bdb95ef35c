/- TopMoves: some closed runs, turned by the kernel. -/
import Derived.Test.YtjnpggeibjbfmaaGreatDoorMov1
namespace Go.Proofs.YtjnpggeibjbfmaaGreatDoor.MovF
open Go.Vai
set_option linter.unusedVariables false
set_option maxRecDepth 1000000
theorem ib20 : (entB cl0 21 i54f) = true := by decide +kernel
theorem ik54f : entB cl0 21 i54f = true := ib20
theorem ib21 : (entB cl0 21 i50t) = true := by decide +kernel
theorem ik50t : entB cl0 21 i50t = true := ib21
theorem ib22 : (entB cl0 21 i51t) = true := by decide +kernel
theorem ik51t : entB cl0 21 i51t = true := ib22
theorem ib23 : (entB cl0 21 i52t) = true := by decide +kernel
theorem ik52t : entB cl0 21 i52t = true := ib23
theorem ib24 : (entB cl0 21 i53t) = true := by decide +kernel
theorem ik53t : entB cl0 21 i53t = true := ib24
end Go.Proofs.YtjnpggeibjbfmaaGreatDoor.MovF
