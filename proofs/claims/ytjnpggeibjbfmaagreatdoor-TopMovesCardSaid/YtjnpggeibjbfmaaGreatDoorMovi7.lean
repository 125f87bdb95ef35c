/- TopMoves: some closed runs, turned by the kernel. -/
import Derived.Test.YtjnpggeibjbfmaaGreatDoorMov1
namespace Go.Proofs.YtjnpggeibjbfmaaGreatDoor.MovF
open Go.Vai
set_option linter.unusedVariables false
set_option maxRecDepth 1000000
theorem ib35 : (entB cl0 21 i63t) = true := by decide +kernel
theorem ik63t : entB cl0 21 i63t = true := ib35
theorem ib36 : (entB cl0 21 i64t) = true := by decide +kernel
theorem ik64t : entB cl0 21 i64t = true := ib36
theorem ib37 : (entB cl0 21 i65t) = true := by decide +kernel
theorem ik65t : entB cl0 21 i65t = true := ib37
end Go.Proofs.YtjnpggeibjbfmaaGreatDoor.MovF
