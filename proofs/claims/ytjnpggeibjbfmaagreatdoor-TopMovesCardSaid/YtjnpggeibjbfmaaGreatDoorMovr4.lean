/- TopMoves: some closed runs, turned by the kernel. -/
import Derived.Test.YtjnpggeibjbfmaaGreatDoorMov1
namespace Go.Proofs.YtjnpggeibjbfmaaGreatDoor.MovF
open Go.Vai
set_option linter.unusedVariables false
set_option maxRecDepth 1000000
theorem rb12 : (rB d52f i54f 5 2 4 false && (rB d53f i50f 5 3 0 false && (rB d53f i51f 5 3 1 false && (rB d53f i52f 5 3 2 false)))) = true := by decide +kernel
theorem rk524f : rB d52f i54f 5 2 4 false = true := and_l rb12
theorem rk530f : rB d53f i50f 5 3 0 false = true := and_l (and_r rb12)
theorem rk531f : rB d53f i51f 5 3 1 false = true := and_l (and_r (and_r rb12))
theorem rk532f : rB d53f i52f 5 3 2 false = true := (and_r (and_r (and_r rb12)))
theorem rb13 : (rB d53f i53f 5 3 3 false && (rB d53f i54f 5 3 4 false && (rB d54f i50f 5 4 0 false && (rB d54f i51f 5 4 1 false)))) = true := by decide +kernel
theorem rk533f : rB d53f i53f 5 3 3 false = true := and_l rb13
theorem rk534f : rB d53f i54f 5 3 4 false = true := and_l (and_r rb13)
theorem rk540f : rB d54f i50f 5 4 0 false = true := and_l (and_r (and_r rb13))
theorem rk541f : rB d54f i51f 5 4 1 false = true := (and_r (and_r (and_r rb13)))
theorem rb14 : (rB d54f i52f 5 4 2 false && (rB d54f i53f 5 4 3 false && (rB d54f i54f 5 4 4 false && (rB d50t i50t 5 0 0 true && (rB d50t i51t 5 0 1 true))))) = true := by decide +kernel
theorem rk542f : rB d54f i52f 5 4 2 false = true := and_l rb14
theorem rk543f : rB d54f i53f 5 4 3 false = true := and_l (and_r rb14)
theorem rk544f : rB d54f i54f 5 4 4 false = true := and_l (and_r (and_r rb14))
theorem rk500t : rB d50t i50t 5 0 0 true = true := and_l (and_r (and_r (and_r rb14)))
theorem rk501t : rB d50t i51t 5 0 1 true = true := (and_r (and_r (and_r (and_r rb14))))
end Go.Proofs.YtjnpggeibjbfmaaGreatDoor.MovF
