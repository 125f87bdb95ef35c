/- TopMoves: some closed runs, turned by the kernel. -/
import Derived.Test.YtjnpggeibjbfmaaGreatDoorMov1
namespace Go.Proofs.YtjnpggeibjbfmaaGreatDoor.MovF
open Go.Vai
set_option linter.unusedVariables false
set_option maxRecDepth 1000000
theorem rb18 : (rB d54t i50t 5 4 0 true && (rB d54t i51t 5 4 1 true && (rB d54t i52t 5 4 2 true && (rB d54t i53t 5 4 3 true && (rB d54t i54t 5 4 4 true))))) = true := by decide +kernel
theorem rk540t : rB d54t i50t 5 4 0 true = true := and_l rb18
theorem rk541t : rB d54t i51t 5 4 1 true = true := and_l (and_r rb18)
theorem rk542t : rB d54t i52t 5 4 2 true = true := and_l (and_r (and_r rb18))
theorem rk543t : rB d54t i53t 5 4 3 true = true := and_l (and_r (and_r (and_r rb18)))
theorem rk544t : rB d54t i54t 5 4 4 true = true := (and_r (and_r (and_r (and_r rb18))))
theorem rb19 : (rB d60f i60f 6 0 0 false && (rB d60f i61f 6 0 1 false && (rB d60f i62f 6 0 2 false))) = true := by decide +kernel
theorem rk600f : rB d60f i60f 6 0 0 false = true := and_l rb19
theorem rk601f : rB d60f i61f 6 0 1 false = true := and_l (and_r rb19)
theorem rk602f : rB d60f i62f 6 0 2 false = true := (and_r (and_r rb19))
theorem rb20 : (rB d60f i63f 6 0 3 false && (rB d60f i64f 6 0 4 false && (rB d60f i65f 6 0 5 false))) = true := by decide +kernel
theorem rk603f : rB d60f i63f 6 0 3 false = true := and_l rb20
theorem rk604f : rB d60f i64f 6 0 4 false = true := and_l (and_r rb20)
theorem rk605f : rB d60f i65f 6 0 5 false = true := (and_r (and_r rb20))
end Go.Proofs.YtjnpggeibjbfmaaGreatDoor.MovF
