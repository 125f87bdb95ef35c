/- TopMoves: some closed runs, turned by the kernel. -/
import Derived.Test.YtjnpggeibjbfmaaGreatDoorMov1
namespace Go.Proofs.YtjnpggeibjbfmaaGreatDoor.MovF
open Go.Vai
set_option linter.unusedVariables false
set_option maxRecDepth 1000000
theorem rb24 : (rB d62f i63f 6 2 3 false && (rB d62f i64f 6 2 4 false && (rB d62f i65f 6 2 5 false))) = true := by decide +kernel
theorem rk623f : rB d62f i63f 6 2 3 false = true := and_l rb24
theorem rk624f : rB d62f i64f 6 2 4 false = true := and_l (and_r rb24)
theorem rk625f : rB d62f i65f 6 2 5 false = true := (and_r (and_r rb24))
theorem rb25 : (rB d63f i60f 6 3 0 false && (rB d63f i61f 6 3 1 false && (rB d63f i62f 6 3 2 false))) = true := by decide +kernel
theorem rk630f : rB d63f i60f 6 3 0 false = true := and_l rb25
theorem rk631f : rB d63f i61f 6 3 1 false = true := and_l (and_r rb25)
theorem rk632f : rB d63f i62f 6 3 2 false = true := (and_r (and_r rb25))
theorem rb26 : (rB d63f i63f 6 3 3 false && (rB d63f i64f 6 3 4 false && (rB d63f i65f 6 3 5 false))) = true := by decide +kernel
theorem rk633f : rB d63f i63f 6 3 3 false = true := and_l rb26
theorem rk634f : rB d63f i64f 6 3 4 false = true := and_l (and_r rb26)
theorem rk635f : rB d63f i65f 6 3 5 false = true := (and_r (and_r rb26))
end Go.Proofs.YtjnpggeibjbfmaaGreatDoor.MovF
