/- ScriptLists: some edits of the table, turned by the kernel. -/
import Derived.Test.YtbndnhkhphkjgaaGreatDoorSlist1
namespace Go.Proofs.YtbndnhkhphkjgaaGreatDoor.SlistF
open Go.Vai
set_option maxRecDepth 1000000
theorem e6 : entB cl0 17 en6 = true := by decide +kernel
theorem e7 : entB cl0 17 en7 = true := by decide +kernel
theorem e8 : entB cl0 17 en8 = true := by decide +kernel
theorem e9 : entB cl0 17 en9 = true := by decide +kernel
theorem e10 : entB cl0 17 en10 = true := by decide +kernel
theorem e11 : entB cl0 17 en11 = true := by decide +kernel
theorem e12 : entB cl0 17 en12 = true := by decide +kernel
theorem e13 : entB cl0 17 en13 = true := by decide +kernel
theorem e14 : entB cl0 17 en14 = true := by decide +kernel
end Go.Proofs.YtbndnhkhphkjgaaGreatDoor.SlistF
