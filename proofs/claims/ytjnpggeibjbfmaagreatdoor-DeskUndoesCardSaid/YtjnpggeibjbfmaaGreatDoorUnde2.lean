/- DeskUndoes: some edits of the table, turned by the kernel. -/
import Derived.Test.YtjnpggeibjbfmaaGreatDoorUnd1
namespace Go.Proofs.YtjnpggeibjbfmaaGreatDoor.UndF
open Go.Vai
set_option linter.unusedVariables false
set_option maxRecDepth 1000000
theorem eb12 : (entB cl0 21 en30 && (entB cl0 21 en31 && (entB cl0 21 en32))) = true := by decide +kernel
theorem e30 : entB cl0 21 en30 = true := and_l eb12
theorem e31 : entB cl0 21 en31 = true := and_l (and_r eb12)
theorem e32 : entB cl0 21 en32 = true := (and_r (and_r eb12))
theorem eb15 : (entB cl0 21 en33 && (entB cl0 21 en04 && (entB cl0 21 en44))) = true := by decide +kernel
theorem e33 : entB cl0 21 en33 = true := and_l eb15
theorem e04 : entB cl0 21 en04 = true := and_l (and_r eb15)
theorem e44 : entB cl0 21 en44 = true := (and_r (and_r eb15))
end Go.Proofs.YtjnpggeibjbfmaaGreatDoor.UndF
