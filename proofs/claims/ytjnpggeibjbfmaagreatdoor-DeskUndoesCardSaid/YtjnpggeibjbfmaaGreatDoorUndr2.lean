/- DeskUndoes: rounds, turned by the kernel: whichever round it is. -/
import Derived.Test.YtjnpggeibjbfmaaGreatDoorUnd1
namespace Go.Proofs.YtjnpggeibjbfmaaGreatDoor.UndF
open Go.Vai
set_option linter.unusedVariables false
set_option maxRecDepth 1000000
theorem same6 : ((List.range 12).all fun i => Nat.blt i 6 || sameB 6 i) = true := by decide +kernel
theorem chg6 : ((List.range 12).all fun i => Nat.blt i 6 || chgB 6 i) = true := by decide +kernel
theorem same7 : ((List.range 12).all fun i => Nat.blt i 7 || sameB 7 i) = true := by decide +kernel
theorem chg7 : ((List.range 12).all fun i => Nat.blt i 7 || chgB 7 i) = true := by decide +kernel
theorem same8 : ((List.range 12).all fun i => Nat.blt i 8 || sameB 8 i) = true := by decide +kernel
theorem chg8 : ((List.range 12).all fun i => Nat.blt i 8 || chgB 8 i) = true := by decide +kernel
end Go.Proofs.YtjnpggeibjbfmaaGreatDoor.UndF
