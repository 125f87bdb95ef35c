/- TopMoves: some closed runs, turned by the kernel. -/
import Derived.Test.YtjnpggeibjbfmaaGreatDoorMov1
namespace Go.Proofs.YtjnpggeibjbfmaaGreatDoor.MovF
open Go.Vai
set_option linter.unusedVariables false
set_option maxRecDepth 1000000
theorem rb3 : (rB d40f i40f 4 0 0 false && (rB d40f i41f 4 0 1 false && (rB d40f i42f 4 0 2 false && (rB d40f i43f 4 0 3 false && (rB d41f i40f 4 1 0 false))))) = true := by decide +kernel
theorem rk400f : rB d40f i40f 4 0 0 false = true := and_l rb3
theorem rk401f : rB d40f i41f 4 0 1 false = true := and_l (and_r rb3)
theorem rk402f : rB d40f i42f 4 0 2 false = true := and_l (and_r (and_r rb3))
theorem rk403f : rB d40f i43f 4 0 3 false = true := and_l (and_r (and_r (and_r rb3)))
theorem rk410f : rB d41f i40f 4 1 0 false = true := (and_r (and_r (and_r (and_r rb3))))
theorem rb4 : (rB d41f i41f 4 1 1 false && (rB d41f i42f 4 1 2 false && (rB d41f i43f 4 1 3 false && (rB d42f i40f 4 2 0 false && (rB d42f i41f 4 2 1 false))))) = true := by decide +kernel
theorem rk411f : rB d41f i41f 4 1 1 false = true := and_l rb4
theorem rk412f : rB d41f i42f 4 1 2 false = true := and_l (and_r rb4)
theorem rk413f : rB d41f i43f 4 1 3 false = true := and_l (and_r (and_r rb4))
theorem rk420f : rB d42f i40f 4 2 0 false = true := and_l (and_r (and_r (and_r rb4)))
theorem rk421f : rB d42f i41f 4 2 1 false = true := (and_r (and_r (and_r (and_r rb4))))
theorem rb5 : (rB d42f i42f 4 2 2 false && (rB d42f i43f 4 2 3 false && (rB d43f i40f 4 3 0 false && (rB d43f i41f 4 3 1 false && (rB d43f i42f 4 3 2 false))))) = true := by decide +kernel
theorem rk422f : rB d42f i42f 4 2 2 false = true := and_l rb5
theorem rk423f : rB d42f i43f 4 2 3 false = true := and_l (and_r rb5)
theorem rk430f : rB d43f i40f 4 3 0 false = true := and_l (and_r (and_r rb5))
theorem rk431f : rB d43f i41f 4 3 1 false = true := and_l (and_r (and_r (and_r rb5)))
theorem rk432f : rB d43f i42f 4 3 2 false = true := (and_r (and_r (and_r (and_r rb5))))
end Go.Proofs.YtjnpggeibjbfmaaGreatDoor.MovF
