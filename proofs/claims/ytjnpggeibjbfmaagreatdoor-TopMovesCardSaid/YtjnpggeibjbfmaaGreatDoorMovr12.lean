/- TopMoves: some closed runs, turned by the kernel. -/
import Derived.Test.YtjnpggeibjbfmaaGreatDoorMov1
namespace Go.Proofs.YtjnpggeibjbfmaaGreatDoor.MovF
open Go.Vai
set_option linter.unusedVariables false
set_option maxRecDepth 1000000
theorem rb36 : (rB d64t i61t 6 4 1 true && (rB d64t i62t 6 4 2 true && (rB d64t i63t 6 4 3 true && (rB d64t i64t 6 4 4 true && (rB d64t i65t 6 4 5 true))))) = true := by decide +kernel
theorem rk641t : rB d64t i61t 6 4 1 true = true := and_l rb36
theorem rk642t : rB d64t i62t 6 4 2 true = true := and_l (and_r rb36)
theorem rk643t : rB d64t i63t 6 4 3 true = true := and_l (and_r (and_r rb36))
theorem rk644t : rB d64t i64t 6 4 4 true = true := and_l (and_r (and_r (and_r rb36)))
theorem rk645t : rB d64t i65t 6 4 5 true = true := (and_r (and_r (and_r (and_r rb36))))
theorem rb37 : (rB d65t i60t 6 5 0 true && (rB d65t i61t 6 5 1 true && (rB d65t i62t 6 5 2 true && (rB d65t i63t 6 5 3 true && (rB d65t i64t 6 5 4 true))))) = true := by decide +kernel
theorem rk650t : rB d65t i60t 6 5 0 true = true := and_l rb37
theorem rk651t : rB d65t i61t 6 5 1 true = true := and_l (and_r rb37)
theorem rk652t : rB d65t i62t 6 5 2 true = true := and_l (and_r (and_r rb37))
theorem rk653t : rB d65t i63t 6 5 3 true = true := and_l (and_r (and_r (and_r rb37)))
theorem rk654t : rB d65t i64t 6 5 4 true = true := (and_r (and_r (and_r (and_r rb37))))
theorem rb38 : (rB d65t i65t 6 5 5 true) = true := by decide +kernel
theorem rk655t : rB d65t i65t 6 5 5 true = true := rb38
end Go.Proofs.YtjnpggeibjbfmaaGreatDoor.MovF
