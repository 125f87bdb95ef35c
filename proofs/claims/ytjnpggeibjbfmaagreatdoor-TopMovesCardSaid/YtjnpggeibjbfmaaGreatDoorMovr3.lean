/- TopMoves: some closed runs, turned by the kernel. -/
import Derived.Test.YtjnpggeibjbfmaaGreatDoorMov1
namespace Go.Proofs.YtjnpggeibjbfmaaGreatDoor.MovF
open Go.Vai
set_option linter.unusedVariables false
set_option maxRecDepth 1000000
theorem rb9 : (rB d50f i52f 5 0 2 false && (rB d50f i53f 5 0 3 false && (rB d50f i54f 5 0 4 false && (rB d51f i50f 5 1 0 false)))) = true := by decide +kernel
theorem rk502f : rB d50f i52f 5 0 2 false = true := and_l rb9
theorem rk503f : rB d50f i53f 5 0 3 false = true := and_l (and_r rb9)
theorem rk504f : rB d50f i54f 5 0 4 false = true := and_l (and_r (and_r rb9))
theorem rk510f : rB d51f i50f 5 1 0 false = true := (and_r (and_r (and_r rb9)))
theorem rb10 : (rB d51f i51f 5 1 1 false && (rB d51f i52f 5 1 2 false && (rB d51f i53f 5 1 3 false && (rB d51f i54f 5 1 4 false)))) = true := by decide +kernel
theorem rk511f : rB d51f i51f 5 1 1 false = true := and_l rb10
theorem rk512f : rB d51f i52f 5 1 2 false = true := and_l (and_r rb10)
theorem rk513f : rB d51f i53f 5 1 3 false = true := and_l (and_r (and_r rb10))
theorem rk514f : rB d51f i54f 5 1 4 false = true := (and_r (and_r (and_r rb10)))
theorem rb11 : (rB d52f i50f 5 2 0 false && (rB d52f i51f 5 2 1 false && (rB d52f i52f 5 2 2 false && (rB d52f i53f 5 2 3 false)))) = true := by decide +kernel
theorem rk520f : rB d52f i50f 5 2 0 false = true := and_l rb11
theorem rk521f : rB d52f i51f 5 2 1 false = true := and_l (and_r rb11)
theorem rk522f : rB d52f i52f 5 2 2 false = true := and_l (and_r (and_r rb11))
theorem rk523f : rB d52f i53f 5 2 3 false = true := (and_r (and_r (and_r rb11)))
end Go.Proofs.YtjnpggeibjbfmaaGreatDoor.MovF
