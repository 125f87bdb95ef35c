/- ScriptLists: some edits of the table, turned by the kernel. -/
import Derived.Test.YtbndnhkhphkjgaaGreatDoorSlist1
namespace Go.Proofs.YtbndnhkhphkjgaaGreatDoor.SlistF
open Go.Vai
set_option maxRecDepth 1000000
theorem e0 : entB cl0 17 en0 = true := by decide +kernel
theorem e1 : entB cl0 17 en1 = true := by decide +kernel
theorem e2 : entB cl0 17 en2 = true := by decide +kernel
theorem e3 : entB cl0 17 en3 = true := by decide +kernel
theorem e4 : entB cl0 17 en4 = true := by decide +kernel
theorem e5 : entB cl0 17 en5 = true := by decide +kernel
end Go.Proofs.YtbndnhkhphkjgaaGreatDoor.SlistF
