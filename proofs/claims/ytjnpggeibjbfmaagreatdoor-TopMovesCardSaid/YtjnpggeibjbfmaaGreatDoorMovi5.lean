/- TopMoves: some closed runs, turned by the kernel. -/
import Derived.Test.YtjnpggeibjbfmaaGreatDoorMov1
namespace Go.Proofs.YtjnpggeibjbfmaaGreatDoor.MovF
open Go.Vai
set_option linter.unusedVariables false
set_option maxRecDepth 1000000
theorem ib25 : (entB cl0 21 i54t) = true := by decide +kernel
theorem ik54t : entB cl0 21 i54t = true := ib25
theorem ib26 : (entB cl0 21 i60f) = true := by decide +kernel
theorem ik60f : entB cl0 21 i60f = true := ib26
theorem ib27 : (entB cl0 21 i61f) = true := by decide +kernel
theorem ik61f : entB cl0 21 i61f = true := ib27
theorem ib28 : (entB cl0 21 i62f) = true := by decide +kernel
theorem ik62f : entB cl0 21 i62f = true := ib28
theorem ib29 : (entB cl0 21 i63f) = true := by decide +kernel
theorem ik63f : entB cl0 21 i63f = true := ib29
end Go.Proofs.YtjnpggeibjbfmaaGreatDoor.MovF
