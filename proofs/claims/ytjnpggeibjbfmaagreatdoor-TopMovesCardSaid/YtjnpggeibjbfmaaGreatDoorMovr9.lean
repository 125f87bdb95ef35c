/- TopMoves: some closed runs, turned by the kernel. -/
import Derived.Test.YtjnpggeibjbfmaaGreatDoorMov1
namespace Go.Proofs.YtjnpggeibjbfmaaGreatDoor.MovF
open Go.Vai
set_option linter.unusedVariables false
set_option maxRecDepth 1000000
theorem rb27 : (rB d64f i60f 6 4 0 false && (rB d64f i61f 6 4 1 false && (rB d64f i62f 6 4 2 false))) = true := by decide +kernel
theorem rk640f : rB d64f i60f 6 4 0 false = true := and_l rb27
theorem rk641f : rB d64f i61f 6 4 1 false = true := and_l (and_r rb27)
theorem rk642f : rB d64f i62f 6 4 2 false = true := (and_r (and_r rb27))
theorem rb28 : (rB d64f i63f 6 4 3 false && (rB d64f i64f 6 4 4 false && (rB d64f i65f 6 4 5 false))) = true := by decide +kernel
theorem rk643f : rB d64f i63f 6 4 3 false = true := and_l rb28
theorem rk644f : rB d64f i64f 6 4 4 false = true := and_l (and_r rb28)
theorem rk645f : rB d64f i65f 6 4 5 false = true := (and_r (and_r rb28))
theorem rb29 : (rB d65f i60f 6 5 0 false && (rB d65f i61f 6 5 1 false && (rB d65f i62f 6 5 2 false))) = true := by decide +kernel
theorem rk650f : rB d65f i60f 6 5 0 false = true := and_l rb29
theorem rk651f : rB d65f i61f 6 5 1 false = true := and_l (and_r rb29)
theorem rk652f : rB d65f i62f 6 5 2 false = true := (and_r (and_r rb29))
end Go.Proofs.YtjnpggeibjbfmaaGreatDoor.MovF
