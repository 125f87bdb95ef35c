/- TopMoves: some closed runs, turned by the kernel. -/
import Derived.Test.YtjnpggeibjbfmaaGreatDoorMov1
namespace Go.Proofs.YtjnpggeibjbfmaaGreatDoor.MovF
open Go.Vai
set_option linter.unusedVariables false
set_option maxRecDepth 1000000
theorem eb28 : (entB cl0 21 d63t) = true := by decide +kernel
theorem dk63t : entB cl0 21 d63t = true := eb28
theorem eb29 : (entB cl0 21 d64t) = true := by decide +kernel
theorem dk64t : entB cl0 21 d64t = true := eb29
theorem eb30 : (entB cl0 21 d65t) = true := by decide +kernel
theorem dk65t : entB cl0 21 d65t = true := eb30
end Go.Proofs.YtjnpggeibjbfmaaGreatDoor.MovF
