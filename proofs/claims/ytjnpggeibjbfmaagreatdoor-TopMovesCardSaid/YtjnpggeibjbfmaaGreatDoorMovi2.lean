/- TopMoves: some closed runs, turned by the kernel. -/
import Derived.Test.YtjnpggeibjbfmaaGreatDoorMov1
namespace Go.Proofs.YtjnpggeibjbfmaaGreatDoor.MovF
open Go.Vai
set_option linter.unusedVariables false
set_option maxRecDepth 1000000
theorem ib10 : (entB cl0 21 i42f) = true := by decide +kernel
theorem ik42f : entB cl0 21 i42f = true := ib10
theorem ib11 : (entB cl0 21 i43f) = true := by decide +kernel
theorem ik43f : entB cl0 21 i43f = true := ib11
theorem ib12 : (entB cl0 21 i40t) = true := by decide +kernel
theorem ik40t : entB cl0 21 i40t = true := ib12
theorem ib13 : (entB cl0 21 i41t) = true := by decide +kernel
theorem ik41t : entB cl0 21 i41t = true := ib13
theorem ib14 : (entB cl0 21 i42t) = true := by decide +kernel
theorem ik42t : entB cl0 21 i42t = true := ib14
end Go.Proofs.YtjnpggeibjbfmaaGreatDoor.MovF
