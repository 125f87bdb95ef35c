/- TopMoves: some closed runs, turned by the kernel. -/
import Derived.Test.YtjnpggeibjbfmaaGreatDoorMov1
namespace Go.Proofs.YtjnpggeibjbfmaaGreatDoor.MovF
open Go.Vai
set_option linter.unusedVariables false
set_option maxRecDepth 1000000
theorem eb0 : (entB cl0 21 wkE && (entB cl0 21 d20f)) = true := by decide +kernel
theorem wk_ok : entB cl0 21 wkE = true := and_l eb0
theorem dk20f : entB cl0 21 d20f = true := (and_r eb0)
theorem eb1 : (entB cl0 21 d21f && (entB cl0 21 d20t && (entB cl0 21 d21t))) = true := by decide +kernel
theorem dk21f : entB cl0 21 d21f = true := and_l eb1
theorem dk20t : entB cl0 21 d20t = true := and_l (and_r eb1)
theorem dk21t : entB cl0 21 d21t = true := (and_r (and_r eb1))
theorem eb2 : (entB cl0 21 d30f && (entB cl0 21 d31f)) = true := by decide +kernel
theorem dk30f : entB cl0 21 d30f = true := and_l eb2
theorem dk31f : entB cl0 21 d31f = true := (and_r eb2)
theorem eb3 : (entB cl0 21 d32f && (entB cl0 21 d30t)) = true := by decide +kernel
theorem dk32f : entB cl0 21 d32f = true := and_l eb3
theorem dk30t : entB cl0 21 d30t = true := (and_r eb3)
end Go.Proofs.YtjnpggeibjbfmaaGreatDoor.MovF
