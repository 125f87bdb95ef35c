/- ScriptLists: some edits of the table, turned by the kernel. -/
import Derived.Test.YtbndnhkhphkjgaaGreatDoorSlist1
namespace Go.Proofs.YtbndnhkhphkjgaaGreatDoor.SlistF
open Go.Vai
set_option maxRecDepth 1000000
theorem e15 : entB cl0 17 en15 = true := by decide +kernel
theorem e16 : entB cl0 17 en16 = true := by decide +kernel
theorem e17 : entB cl0 17 en17 = true := by decide +kernel
theorem e18 : entB cl0 17 en18 = true := by decide +kernel
theorem e19 : entB cl0 17 en19 = true := by decide +kernel
theorem e20 : entB cl0 17 en20 = true := by decide +kernel
end Go.Proofs.YtbndnhkhphkjgaaGreatDoor.SlistF
