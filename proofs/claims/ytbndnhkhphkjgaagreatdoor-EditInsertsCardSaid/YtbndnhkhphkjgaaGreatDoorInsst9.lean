/- EditInserts: some rounds of the law, turned by the kernel. -/
import Derived.Test.YtbndnhkhphkjgaaGreatDoorInss1
namespace Go.Proofs.YtbndnhkhphkjgaaGreatDoor.InssF
open Go.Vai
set_option linter.unusedVariables false
set_option maxRecDepth 1000000
theorem rs9 : ((roundR P cl 100000 130 lp2 stB [] [(106, .int .i64 1)] && roundR P cl 100000 130 lp2 stB [(106, .int .i64 1)] [(106, .int .i64 2)])) = true := by decide +kernel
theorem rd2_0 : roundR P cl 100000 130 lp2 stB [] [(106, .int .i64 1)] = true := and_l rs9
theorem rd2_1 : roundR P cl 100000 130 lp2 stB [(106, .int .i64 1)] [(106, .int .i64 2)] = true := (and_r rs9)
end Go.Proofs.YtbndnhkhphkjgaaGreatDoor.InssF
