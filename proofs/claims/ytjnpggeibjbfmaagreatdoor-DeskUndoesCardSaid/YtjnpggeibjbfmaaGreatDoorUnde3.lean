/- DeskUndoes: some edits of the table, turned by the kernel. -/
import Derived.Test.YtjnpggeibjbfmaaGreatDoorUnd1
namespace Go.Proofs.YtjnpggeibjbfmaaGreatDoor.UndF
open Go.Vai
set_option linter.unusedVariables false
set_option maxRecDepth 1000000
theorem eb18 : (entB cl0 21 en40 && (entB cl0 21 en41 && (entB cl0 21 en42))) = true := by decide +kernel
theorem e40 : entB cl0 21 en40 = true := and_l eb18
theorem e41 : entB cl0 21 en41 = true := and_l (and_r eb18)
theorem e42 : entB cl0 21 en42 = true := (and_r (and_r eb18))
theorem eb21 : (entB cl0 21 en43) = true := by decide +kernel
theorem e43 : entB cl0 21 en43 = true := eb21
end Go.Proofs.YtjnpggeibjbfmaaGreatDoor.UndF
