/- TopMoves: some closed runs, turned by the kernel. -/
import Derived.Test.YtjnpggeibjbfmaaGreatDoorMov1
namespace Go.Proofs.YtjnpggeibjbfmaaGreatDoor.MovF
open Go.Vai
set_option linter.unusedVariables false
set_option maxRecDepth 1000000
theorem ib5 : (entB cl0 21 i32f) = true := by decide +kernel
theorem ik32f : entB cl0 21 i32f = true := ib5
theorem ib6 : (entB cl0 21 i30t && (entB cl0 21 i31t)) = true := by decide +kernel
theorem ik30t : entB cl0 21 i30t = true := and_l ib6
theorem ik31t : entB cl0 21 i31t = true := (and_r ib6)
theorem ib7 : (entB cl0 21 i32t) = true := by decide +kernel
theorem ik32t : entB cl0 21 i32t = true := ib7
theorem ib8 : (entB cl0 21 i40f) = true := by decide +kernel
theorem ik40f : entB cl0 21 i40f = true := ib8
theorem ib9 : (entB cl0 21 i41f) = true := by decide +kernel
theorem ik41f : entB cl0 21 i41f = true := ib9
end Go.Proofs.YtjnpggeibjbfmaaGreatDoor.MovF
