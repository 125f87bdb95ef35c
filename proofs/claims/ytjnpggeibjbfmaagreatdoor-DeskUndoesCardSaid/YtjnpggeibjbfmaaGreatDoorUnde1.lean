/- DeskUndoes: some edits of the table, turned by the kernel. -/
import Derived.Test.YtjnpggeibjbfmaaGreatDoorUnd1
namespace Go.Proofs.YtjnpggeibjbfmaaGreatDoor.UndF
open Go.Vai
set_option linter.unusedVariables false
set_option maxRecDepth 1000000
theorem eb6 : (entB cl0 21 en12 && (entB cl0 21 en13 && (entB cl0 21 en20))) = true := by decide +kernel
theorem e12 : entB cl0 21 en12 = true := and_l eb6
theorem e13 : entB cl0 21 en13 = true := and_l (and_r eb6)
theorem e20 : entB cl0 21 en20 = true := (and_r (and_r eb6))
theorem eb9 : (entB cl0 21 en21 && (entB cl0 21 en22 && (entB cl0 21 en23))) = true := by decide +kernel
theorem e21 : entB cl0 21 en21 = true := and_l eb9
theorem e22 : entB cl0 21 en22 = true := and_l (and_r eb9)
theorem e23 : entB cl0 21 en23 = true := (and_r (and_r eb9))
end Go.Proofs.YtjnpggeibjbfmaaGreatDoor.UndF
