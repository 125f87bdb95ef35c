/- TopMoves: some closed runs, turned by the kernel. -/
import Derived.Test.YtjnpggeibjbfmaaGreatDoorMov1
namespace Go.Proofs.YtjnpggeibjbfmaaGreatDoor.MovF
open Go.Vai
set_option linter.unusedVariables false
set_option maxRecDepth 1000000
theorem rb6 : (rB d43f i43f 4 3 3 false && (rB d40t i40t 4 0 0 true && (rB d40t i41t 4 0 1 true && (rB d40t i42t 4 0 2 true && (rB d40t i43t 4 0 3 true && (rB d41t i40t 4 1 0 true && (rB d41t i41t 4 1 1 true))))))) = true := by decide +kernel
theorem rk433f : rB d43f i43f 4 3 3 false = true := and_l rb6
theorem rk400t : rB d40t i40t 4 0 0 true = true := and_l (and_r rb6)
theorem rk401t : rB d40t i41t 4 0 1 true = true := and_l (and_r (and_r rb6))
theorem rk402t : rB d40t i42t 4 0 2 true = true := and_l (and_r (and_r (and_r rb6)))
theorem rk403t : rB d40t i43t 4 0 3 true = true := and_l (and_r (and_r (and_r (and_r rb6))))
theorem rk410t : rB d41t i40t 4 1 0 true = true := and_l (and_r (and_r (and_r (and_r (and_r rb6)))))
theorem rk411t : rB d41t i41t 4 1 1 true = true := (and_r (and_r (and_r (and_r (and_r (and_r rb6))))))
theorem rb7 : (rB d41t i42t 4 1 2 true && (rB d41t i43t 4 1 3 true && (rB d42t i40t 4 2 0 true && (rB d42t i41t 4 2 1 true && (rB d42t i42t 4 2 2 true && (rB d42t i43t 4 2 3 true && (rB d43t i40t 4 3 0 true))))))) = true := by decide +kernel
theorem rk412t : rB d41t i42t 4 1 2 true = true := and_l rb7
theorem rk413t : rB d41t i43t 4 1 3 true = true := and_l (and_r rb7)
theorem rk420t : rB d42t i40t 4 2 0 true = true := and_l (and_r (and_r rb7))
theorem rk421t : rB d42t i41t 4 2 1 true = true := and_l (and_r (and_r (and_r rb7)))
theorem rk422t : rB d42t i42t 4 2 2 true = true := and_l (and_r (and_r (and_r (and_r rb7))))
theorem rk423t : rB d42t i43t 4 2 3 true = true := and_l (and_r (and_r (and_r (and_r (and_r rb7)))))
theorem rk430t : rB d43t i40t 4 3 0 true = true := (and_r (and_r (and_r (and_r (and_r (and_r rb7))))))
theorem rb8 : (rB d43t i41t 4 3 1 true && (rB d43t i42t 4 3 2 true && (rB d43t i43t 4 3 3 true && (rB d50f i50f 5 0 0 false && (rB d50f i51f 5 0 1 false))))) = true := by decide +kernel
theorem rk431t : rB d43t i41t 4 3 1 true = true := and_l rb8
theorem rk432t : rB d43t i42t 4 3 2 true = true := and_l (and_r rb8)
theorem rk433t : rB d43t i43t 4 3 3 true = true := and_l (and_r (and_r rb8))
theorem rk500f : rB d50f i50f 5 0 0 false = true := and_l (and_r (and_r (and_r rb8)))
theorem rk501f : rB d50f i51f 5 0 1 false = true := (and_r (and_r (and_r (and_r rb8))))
end Go.Proofs.YtjnpggeibjbfmaaGreatDoor.MovF
