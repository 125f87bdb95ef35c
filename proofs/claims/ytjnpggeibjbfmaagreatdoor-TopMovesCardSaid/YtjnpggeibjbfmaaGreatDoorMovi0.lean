/- TopMoves: some closed runs, turned by the kernel. -/
import Derived.Test.YtjnpggeibjbfmaaGreatDoorMov1
namespace Go.Proofs.YtjnpggeibjbfmaaGreatDoor.MovF
open Go.Vai
set_option linter.unusedVariables false
set_option maxRecDepth 1000000
theorem ib0 : (entB cl0 21 i20f) = true := by decide +kernel
theorem ik20f : entB cl0 21 i20f = true := ib0
theorem ib1 : (entB cl0 21 i21f && (entB cl0 21 i20t)) = true := by decide +kernel
theorem ik21f : entB cl0 21 i21f = true := and_l ib1
theorem ik20t : entB cl0 21 i20t = true := (and_r ib1)
theorem ib2 : (entB cl0 21 i21t) = true := by decide +kernel
theorem ik21t : entB cl0 21 i21t = true := ib2
theorem ib3 : (entB cl0 21 i30f) = true := by decide +kernel
theorem ik30f : entB cl0 21 i30f = true := ib3
theorem ib4 : (entB cl0 21 i31f) = true := by decide +kernel
theorem ik31f : entB cl0 21 i31f = true := ib4
end Go.Proofs.YtjnpggeibjbfmaaGreatDoor.MovF
