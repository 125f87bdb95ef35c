/- DeskUndoes: how it begins, and how it ends. -/
import Derived.Test.YtjnpggeibjbfmaaGreatDoorUnd1
namespace Go.Proofs.YtjnpggeibjbfmaaGreatDoor.UndF
open Go.Vai
set_option linter.unusedVariables false
set_option maxRecDepth 1000000
theorem start : startZ P clE 100000 110 [p0, p1, p2, p3, p4] r6 [.lslice ⟨0, 0, 0, 12⟩ 0 13 false] 0 [0, 81, 80, 79, 82] (sAt 0 0) = true := by decide +kernel
theorem nil0 : runNums P clE 100000 110 lb 2 [.slice none 0 0 0] 0 = true := by decide +kernel
theorem emp0 : runNums P clE 100000 110 lb 2 [.lslice ⟨0, 0, 0, 0⟩ 0 13 true] 0 = true := by decide +kernel
theorem exits : ((List.range 13).all fun m => (List.range 13).all fun i => Nat.blt i m || exB m i) = true := by decide +kernel
theorem exitG : ((List.range 13).all fun m => exG m) = true := by decide +kernel
theorem ends : ((List.range 13).all fun m => enB m) = true := by decide +kernel
end Go.Proofs.YtjnpggeibjbfmaaGreatDoor.UndF
