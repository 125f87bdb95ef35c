/- TopMoves: some closed runs, turned by the kernel. -/
import Derived.Test.YtjnpggeibjbfmaaGreatDoorMov1
namespace Go.Proofs.YtjnpggeibjbfmaaGreatDoor.MovF
open Go.Vai
set_option linter.unusedVariables false
set_option maxRecDepth 1000000
theorem rb33 : (rB d61t i64t 6 1 4 true && (rB d61t i65t 6 1 5 true && (rB d62t i60t 6 2 0 true && (rB d62t i61t 6 2 1 true && (rB d62t i62t 6 2 2 true))))) = true := by decide +kernel
theorem rk614t : rB d61t i64t 6 1 4 true = true := and_l rb33
theorem rk615t : rB d61t i65t 6 1 5 true = true := and_l (and_r rb33)
theorem rk620t : rB d62t i60t 6 2 0 true = true := and_l (and_r (and_r rb33))
theorem rk621t : rB d62t i61t 6 2 1 true = true := and_l (and_r (and_r (and_r rb33)))
theorem rk622t : rB d62t i62t 6 2 2 true = true := (and_r (and_r (and_r (and_r rb33))))
theorem rb34 : (rB d62t i63t 6 2 3 true && (rB d62t i64t 6 2 4 true && (rB d62t i65t 6 2 5 true && (rB d63t i60t 6 3 0 true && (rB d63t i61t 6 3 1 true))))) = true := by decide +kernel
theorem rk623t : rB d62t i63t 6 2 3 true = true := and_l rb34
theorem rk624t : rB d62t i64t 6 2 4 true = true := and_l (and_r rb34)
theorem rk625t : rB d62t i65t 6 2 5 true = true := and_l (and_r (and_r rb34))
theorem rk630t : rB d63t i60t 6 3 0 true = true := and_l (and_r (and_r (and_r rb34)))
theorem rk631t : rB d63t i61t 6 3 1 true = true := (and_r (and_r (and_r (and_r rb34))))
theorem rb35 : (rB d63t i62t 6 3 2 true && (rB d63t i63t 6 3 3 true && (rB d63t i64t 6 3 4 true && (rB d63t i65t 6 3 5 true && (rB d64t i60t 6 4 0 true))))) = true := by decide +kernel
theorem rk632t : rB d63t i62t 6 3 2 true = true := and_l rb35
theorem rk633t : rB d63t i63t 6 3 3 true = true := and_l (and_r rb35)
theorem rk634t : rB d63t i64t 6 3 4 true = true := and_l (and_r (and_r rb35))
theorem rk635t : rB d63t i65t 6 3 5 true = true := and_l (and_r (and_r (and_r rb35)))
theorem rk640t : rB d64t i60t 6 4 0 true = true := (and_r (and_r (and_r (and_r rb35))))
end Go.Proofs.YtjnpggeibjbfmaaGreatDoor.MovF
