/- ScriptLong: the law's runs, one for each number. -/
import Derived.Test.YtbndnhkhphkjgaaGreatDoorSlong1
namespace Go.Proofs.YtbndnhkhphkjgaaGreatDoor.SlongF
open Go.Vai
set_option maxRecDepth 1000000
theorem run0 : runB P (cl 0) 100000 65 lb 2 [.arg 0] = true := by decide +kernel
theorem run1 : runB P (cl 1) 100000 65 lb 2 [.arg 0] = true := by decide +kernel
theorem run2 : runB P (cl 2) 100000 65 lb 2 [.arg 0] = true := by decide +kernel
end Go.Proofs.YtbndnhkhphkjgaaGreatDoor.SlongF
