/- EditInserts: the second loop's end. -/
import Derived.Test.YtbndnhkhphkjgaaGreatDoorInss1
namespace Go.Proofs.YtbndnhkhphkjgaaGreatDoor.InssF
open Go.Vai
set_option linter.unusedVariables false
set_option maxRecDepth 1000000
theorem rend : endR P cl 100000 130 lp2 c16 2 2 stB [(106, .int .i64 5)] = true := by decide +kernel
end Go.Proofs.YtbndnhkhphkjgaaGreatDoor.InssF
