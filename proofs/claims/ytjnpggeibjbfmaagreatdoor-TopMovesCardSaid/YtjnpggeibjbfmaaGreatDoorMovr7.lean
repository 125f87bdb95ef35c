/- TopMoves: some closed runs, turned by the kernel. -/
import Derived.Test.YtjnpggeibjbfmaaGreatDoorMov1
namespace Go.Proofs.YtjnpggeibjbfmaaGreatDoor.MovF
open Go.Vai
set_option linter.unusedVariables false
set_option maxRecDepth 1000000
theorem rb21 : (rB d61f i60f 6 1 0 false && (rB d61f i61f 6 1 1 false && (rB d61f i62f 6 1 2 false))) = true := by decide +kernel
theorem rk610f : rB d61f i60f 6 1 0 false = true := and_l rb21
theorem rk611f : rB d61f i61f 6 1 1 false = true := and_l (and_r rb21)
theorem rk612f : rB d61f i62f 6 1 2 false = true := (and_r (and_r rb21))
theorem rb22 : (rB d61f i63f 6 1 3 false && (rB d61f i64f 6 1 4 false && (rB d61f i65f 6 1 5 false))) = true := by decide +kernel
theorem rk613f : rB d61f i63f 6 1 3 false = true := and_l rb22
theorem rk614f : rB d61f i64f 6 1 4 false = true := and_l (and_r rb22)
theorem rk615f : rB d61f i65f 6 1 5 false = true := (and_r (and_r rb22))
theorem rb23 : (rB d62f i60f 6 2 0 false && (rB d62f i61f 6 2 1 false && (rB d62f i62f 6 2 2 false))) = true := by decide +kernel
theorem rk620f : rB d62f i60f 6 2 0 false = true := and_l rb23
theorem rk621f : rB d62f i61f 6 2 1 false = true := and_l (and_r rb23)
theorem rk622f : rB d62f i62f 6 2 2 false = true := (and_r (and_r rb23))
end Go.Proofs.YtjnpggeibjbfmaaGreatDoor.MovF
