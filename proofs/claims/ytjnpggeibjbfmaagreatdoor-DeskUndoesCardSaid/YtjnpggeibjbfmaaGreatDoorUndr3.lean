/- DeskUndoes: rounds, turned by the kernel: whichever round it is. -/
import Derived.Test.YtjnpggeibjbfmaaGreatDoorUnd1
namespace Go.Proofs.YtjnpggeibjbfmaaGreatDoor.UndF
open Go.Vai
set_option linter.unusedVariables false
set_option maxRecDepth 1000000
theorem same9 : ((List.range 12).all fun i => Nat.blt i 9 || sameB 9 i) = true := by decide +kernel
theorem chg9 : ((List.range 12).all fun i => Nat.blt i 9 || chgB 9 i) = true := by decide +kernel
theorem same10 : ((List.range 12).all fun i => Nat.blt i 10 || sameB 10 i) = true := by decide +kernel
theorem chg10 : ((List.range 12).all fun i => Nat.blt i 10 || chgB 10 i) = true := by decide +kernel
theorem same11 : ((List.range 12).all fun i => Nat.blt i 11 || sameB 11 i) = true := by decide +kernel
theorem chg11 : ((List.range 12).all fun i => Nat.blt i 11 || chgB 11 i) = true := by decide +kernel
end Go.Proofs.YtjnpggeibjbfmaaGreatDoor.UndF
