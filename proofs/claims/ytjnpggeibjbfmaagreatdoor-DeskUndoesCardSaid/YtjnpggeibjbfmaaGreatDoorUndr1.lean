/- DeskUndoes: rounds, turned by the kernel: whichever round it is. -/
import Derived.Test.YtjnpggeibjbfmaaGreatDoorUnd1
namespace Go.Proofs.YtjnpggeibjbfmaaGreatDoor.UndF
open Go.Vai
set_option linter.unusedVariables false
set_option maxRecDepth 1000000
theorem same3 : ((List.range 12).all fun i => Nat.blt i 3 || sameB 3 i) = true := by decide +kernel
theorem chg3 : ((List.range 12).all fun i => Nat.blt i 3 || chgB 3 i) = true := by decide +kernel
theorem same4 : ((List.range 12).all fun i => Nat.blt i 4 || sameB 4 i) = true := by decide +kernel
theorem chg4 : ((List.range 12).all fun i => Nat.blt i 4 || chgB 4 i) = true := by decide +kernel
theorem same5 : ((List.range 12).all fun i => Nat.blt i 5 || sameB 5 i) = true := by decide +kernel
theorem chg5 : ((List.range 12).all fun i => Nat.blt i 5 || chgB 5 i) = true := by decide +kernel
end Go.Proofs.YtjnpggeibjbfmaaGreatDoor.UndF
