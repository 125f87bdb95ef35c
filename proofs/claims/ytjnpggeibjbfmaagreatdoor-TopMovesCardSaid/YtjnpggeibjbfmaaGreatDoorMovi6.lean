/- TopMoves: some closed runs, turned by the kernel. -/
import Derived.Test.YtjnpggeibjbfmaaGreatDoorMov1
namespace Go.Proofs.YtjnpggeibjbfmaaGreatDoor.MovF
open Go.Vai
set_option linter.unusedVariables false
set_option maxRecDepth 1000000
theorem ib30 : (entB cl0 21 i64f) = true := by decide +kernel
theorem ik64f : entB cl0 21 i64f = true := ib30
theorem ib31 : (entB cl0 21 i65f) = true := by decide +kernel
theorem ik65f : entB cl0 21 i65f = true := ib31
theorem ib32 : (entB cl0 21 i60t) = true := by decide +kernel
theorem ik60t : entB cl0 21 i60t = true := ib32
theorem ib33 : (entB cl0 21 i61t) = true := by decide +kernel
theorem ik61t : entB cl0 21 i61t = true := ib33
theorem ib34 : (entB cl0 21 i62t) = true := by decide +kernel
theorem ik62t : entB cl0 21 i62t = true := ib34
end Go.Proofs.YtjnpggeibjbfmaaGreatDoor.MovF
