/- DeskUndoes: some edits of the table, turned by the kernel. -/
import Derived.Test.YtjnpggeibjbfmaaGreatDoorUnd1
namespace Go.Proofs.YtjnpggeibjbfmaaGreatDoor.UndF
open Go.Vai
set_option linter.unusedVariables false
set_option maxRecDepth 1000000
theorem eb0 : (entB cl0 21 en00 && (entB cl0 21 en01 && (entB cl0 21 en02))) = true := by decide +kernel
theorem e00 : entB cl0 21 en00 = true := and_l eb0
theorem e01 : entB cl0 21 en01 = true := and_l (and_r eb0)
theorem e02 : entB cl0 21 en02 = true := (and_r (and_r eb0))
theorem eb3 : (entB cl0 21 en03 && (entB cl0 21 en10 && (entB cl0 21 en11))) = true := by decide +kernel
theorem e03 : entB cl0 21 en03 = true := and_l eb3
theorem e10 : entB cl0 21 en10 = true := and_l (and_r eb3)
theorem e11 : entB cl0 21 en11 = true := (and_r (and_r eb3))
end Go.Proofs.YtjnpggeibjbfmaaGreatDoor.UndF
