/- TopMoves: some closed runs, turned by the kernel. -/
import Derived.Test.YtjnpggeibjbfmaaGreatDoorMov1
namespace Go.Proofs.YtjnpggeibjbfmaaGreatDoor.MovF
open Go.Vai
set_option linter.unusedVariables false
set_option maxRecDepth 1000000
theorem rb30 : (rB d65f i63f 6 5 3 false && (rB d65f i64f 6 5 4 false && (rB d65f i65f 6 5 5 false))) = true := by decide +kernel
theorem rk653f : rB d65f i63f 6 5 3 false = true := and_l rb30
theorem rk654f : rB d65f i64f 6 5 4 false = true := and_l (and_r rb30)
theorem rk655f : rB d65f i65f 6 5 5 false = true := (and_r (and_r rb30))
theorem rb31 : (rB d60t i60t 6 0 0 true && (rB d60t i61t 6 0 1 true && (rB d60t i62t 6 0 2 true && (rB d60t i63t 6 0 3 true && (rB d60t i64t 6 0 4 true))))) = true := by decide +kernel
theorem rk600t : rB d60t i60t 6 0 0 true = true := and_l rb31
theorem rk601t : rB d60t i61t 6 0 1 true = true := and_l (and_r rb31)
theorem rk602t : rB d60t i62t 6 0 2 true = true := and_l (and_r (and_r rb31))
theorem rk603t : rB d60t i63t 6 0 3 true = true := and_l (and_r (and_r (and_r rb31)))
theorem rk604t : rB d60t i64t 6 0 4 true = true := (and_r (and_r (and_r (and_r rb31))))
theorem rb32 : (rB d60t i65t 6 0 5 true && (rB d61t i60t 6 1 0 true && (rB d61t i61t 6 1 1 true && (rB d61t i62t 6 1 2 true && (rB d61t i63t 6 1 3 true))))) = true := by decide +kernel
theorem rk605t : rB d60t i65t 6 0 5 true = true := and_l rb32
theorem rk610t : rB d61t i60t 6 1 0 true = true := and_l (and_r rb32)
theorem rk611t : rB d61t i61t 6 1 1 true = true := and_l (and_r (and_r rb32))
theorem rk612t : rB d61t i62t 6 1 2 true = true := and_l (and_r (and_r (and_r rb32)))
theorem rk613t : rB d61t i63t 6 1 3 true = true := (and_r (and_r (and_r (and_r rb32))))
end Go.Proofs.YtjnpggeibjbfmaaGreatDoor.MovF
