/- TopMoves: some closed runs, turned by the kernel. -/
import Derived.Test.YtjnpggeibjbfmaaGreatDoorMov1
namespace Go.Proofs.YtjnpggeibjbfmaaGreatDoor.MovF
open Go.Vai
set_option linter.unusedVariables false
set_option maxRecDepth 1000000
theorem eb8 : (entB cl0 21 d43f && (entB cl0 21 d40t)) = true := by decide +kernel
theorem dk43f : entB cl0 21 d43f = true := and_l eb8
theorem dk40t : entB cl0 21 d40t = true := (and_r eb8)
theorem eb9 : (entB cl0 21 d41t && (entB cl0 21 d42t)) = true := by decide +kernel
theorem dk41t : entB cl0 21 d41t = true := and_l eb9
theorem dk42t : entB cl0 21 d42t = true := (and_r eb9)
theorem eb10 : (entB cl0 21 d43t) = true := by decide +kernel
theorem dk43t : entB cl0 21 d43t = true := eb10
theorem eb11 : (entB cl0 21 d50f) = true := by decide +kernel
theorem dk50f : entB cl0 21 d50f = true := eb11
end Go.Proofs.YtjnpggeibjbfmaaGreatDoor.MovF
