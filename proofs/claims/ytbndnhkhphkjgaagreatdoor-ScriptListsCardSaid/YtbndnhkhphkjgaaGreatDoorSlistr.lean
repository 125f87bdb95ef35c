/- ScriptLists: the law's runs, one for each number. -/
import Derived.Test.YtbndnhkhphkjgaaGreatDoorSlist1
namespace Go.Proofs.YtbndnhkhphkjgaaGreatDoor.SlistF
open Go.Vai
set_option maxRecDepth 1000000
theorem run0false : runB P (cl 0) 100000 71 lb 4 [.arg 0, .bool false] = true := by decide +kernel
theorem run1false : runB P (cl 1) 100000 71 lb 4 [.arg 0, .bool false] = true := by decide +kernel
theorem run2false : runB P (cl 2) 100000 71 lb 4 [.arg 0, .bool false] = true := by decide +kernel
theorem run3false : runB P (cl 3) 100000 71 lb 4 [.arg 0, .bool false] = true := by decide +kernel
theorem run4false : runB P (cl 4) 100000 71 lb 4 [.arg 0, .bool false] = true := by decide +kernel
theorem run5false : runB P (cl 5) 100000 71 lb 4 [.arg 0, .bool false] = true := by decide +kernel
theorem run0true : runB P (cl 0) 100000 71 lb 4 [.arg 0, .bool true] = true := by decide +kernel
theorem run1true : runB P (cl 1) 100000 71 lb 4 [.arg 0, .bool true] = true := by decide +kernel
theorem run2true : runB P (cl 2) 100000 71 lb 4 [.arg 0, .bool true] = true := by decide +kernel
theorem run3true : runB P (cl 3) 100000 71 lb 4 [.arg 0, .bool true] = true := by decide +kernel
theorem run4true : runB P (cl 4) 100000 71 lb 4 [.arg 0, .bool true] = true := by decide +kernel
theorem run5true : runB P (cl 5) 100000 71 lb 4 [.arg 0, .bool true] = true := by decide +kernel
end Go.Proofs.YtbndnhkhphkjgaaGreatDoor.SlistF
