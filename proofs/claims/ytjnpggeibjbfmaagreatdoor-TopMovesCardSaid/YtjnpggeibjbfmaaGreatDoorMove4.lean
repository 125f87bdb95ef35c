/- TopMoves: some closed runs, turned by the kernel. -/
import Derived.Test.YtjnpggeibjbfmaaGreatDoorMov1
namespace Go.Proofs.YtjnpggeibjbfmaaGreatDoor.MovF
open Go.Vai
set_option linter.unusedVariables false
set_option maxRecDepth 1000000
theorem eb16 : (entB cl0 21 d50t && (entB cl0 21 d51t)) = true := by decide +kernel
theorem dk50t : entB cl0 21 d50t = true := and_l eb16
theorem dk51t : entB cl0 21 d51t = true := (and_r eb16)
theorem eb17 : (entB cl0 21 d52t && (entB cl0 21 d53t)) = true := by decide +kernel
theorem dk52t : entB cl0 21 d52t = true := and_l eb17
theorem dk53t : entB cl0 21 d53t = true := (and_r eb17)
theorem eb18 : (entB cl0 21 d54t) = true := by decide +kernel
theorem dk54t : entB cl0 21 d54t = true := eb18
theorem eb19 : (entB cl0 21 d60f) = true := by decide +kernel
theorem dk60f : entB cl0 21 d60f = true := eb19
end Go.Proofs.YtjnpggeibjbfmaaGreatDoor.MovF
