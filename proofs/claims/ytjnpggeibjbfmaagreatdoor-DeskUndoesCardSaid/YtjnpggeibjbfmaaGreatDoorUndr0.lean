/- DeskUndoes: rounds, turned by the kernel: whichever round it is. -/
import Derived.Test.YtjnpggeibjbfmaaGreatDoorUnd1
namespace Go.Proofs.YtjnpggeibjbfmaaGreatDoor.UndF
open Go.Vai
set_option linter.unusedVariables false
set_option maxRecDepth 1000000
theorem same0 : ((List.range 12).all fun i => Nat.blt i 0 || sameB 0 i) = true := by decide +kernel
theorem chg0 : ((List.range 12).all fun i => Nat.blt i 0 || chgB 0 i) = true := by decide +kernel
theorem same1 : ((List.range 12).all fun i => Nat.blt i 1 || sameB 1 i) = true := by decide +kernel
theorem chg1 : ((List.range 12).all fun i => Nat.blt i 1 || chgB 1 i) = true := by decide +kernel
theorem same2 : ((List.range 12).all fun i => Nat.blt i 2 || sameB 2 i) = true := by decide +kernel
theorem chg2 : ((List.range 12).all fun i => Nat.blt i 2 || chgB 2 i) = true := by decide +kernel
end Go.Proofs.YtjnpggeibjbfmaaGreatDoor.UndF
