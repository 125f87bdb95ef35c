/- TopMoves: some closed runs, turned by the kernel. -/
import Derived.Test.YtjnpggeibjbfmaaGreatDoorMov1
namespace Go.Proofs.YtjnpggeibjbfmaaGreatDoor.MovF
open Go.Vai
set_option linter.unusedVariables false
set_option maxRecDepth 1000000
theorem rb15 : (rB d50t i52t 5 0 2 true && (rB d50t i53t 5 0 3 true && (rB d50t i54t 5 0 4 true && (rB d51t i50t 5 1 0 true && (rB d51t i51t 5 1 1 true && (rB d51t i52t 5 1 2 true)))))) = true := by decide +kernel
theorem rk502t : rB d50t i52t 5 0 2 true = true := and_l rb15
theorem rk503t : rB d50t i53t 5 0 3 true = true := and_l (and_r rb15)
theorem rk504t : rB d50t i54t 5 0 4 true = true := and_l (and_r (and_r rb15))
theorem rk510t : rB d51t i50t 5 1 0 true = true := and_l (and_r (and_r (and_r rb15)))
theorem rk511t : rB d51t i51t 5 1 1 true = true := and_l (and_r (and_r (and_r (and_r rb15))))
theorem rk512t : rB d51t i52t 5 1 2 true = true := (and_r (and_r (and_r (and_r (and_r rb15)))))
theorem rb16 : (rB d51t i53t 5 1 3 true && (rB d51t i54t 5 1 4 true && (rB d52t i50t 5 2 0 true && (rB d52t i51t 5 2 1 true && (rB d52t i52t 5 2 2 true && (rB d52t i53t 5 2 3 true)))))) = true := by decide +kernel
theorem rk513t : rB d51t i53t 5 1 3 true = true := and_l rb16
theorem rk514t : rB d51t i54t 5 1 4 true = true := and_l (and_r rb16)
theorem rk520t : rB d52t i50t 5 2 0 true = true := and_l (and_r (and_r rb16))
theorem rk521t : rB d52t i51t 5 2 1 true = true := and_l (and_r (and_r (and_r rb16)))
theorem rk522t : rB d52t i52t 5 2 2 true = true := and_l (and_r (and_r (and_r (and_r rb16))))
theorem rk523t : rB d52t i53t 5 2 3 true = true := (and_r (and_r (and_r (and_r (and_r rb16)))))
theorem rb17 : (rB d52t i54t 5 2 4 true && (rB d53t i50t 5 3 0 true && (rB d53t i51t 5 3 1 true && (rB d53t i52t 5 3 2 true && (rB d53t i53t 5 3 3 true && (rB d53t i54t 5 3 4 true)))))) = true := by decide +kernel
theorem rk524t : rB d52t i54t 5 2 4 true = true := and_l rb17
theorem rk530t : rB d53t i50t 5 3 0 true = true := and_l (and_r rb17)
theorem rk531t : rB d53t i51t 5 3 1 true = true := and_l (and_r (and_r rb17))
theorem rk532t : rB d53t i52t 5 3 2 true = true := and_l (and_r (and_r (and_r rb17)))
theorem rk533t : rB d53t i53t 5 3 3 true = true := and_l (and_r (and_r (and_r (and_r rb17))))
theorem rk534t : rB d53t i54t 5 3 4 true = true := (and_r (and_r (and_r (and_r (and_r rb17)))))
end Go.Proofs.YtjnpggeibjbfmaaGreatDoor.MovF
