/- EditInserts: some rounds of the law, turned by the kernel. -/
import Derived.Test.YtbndnhkhphkjgaaGreatDoorInss1
namespace Go.Proofs.YtbndnhkhphkjgaaGreatDoor.InssF
open Go.Vai
set_option linter.unusedVariables false
set_option maxRecDepth 1000000
theorem rs10 : ((roundR P cl 100000 130 lp2 stB [(106, .int .i64 2)] [(106, .int .i64 3)] && roundR P cl 100000 130 lp2 stB [(106, .int .i64 3)] [(106, .int .i64 4)])) = true := by decide +kernel
theorem rd2_2 : roundR P cl 100000 130 lp2 stB [(106, .int .i64 2)] [(106, .int .i64 3)] = true := and_l rs10
theorem rd2_3 : roundR P cl 100000 130 lp2 stB [(106, .int .i64 3)] [(106, .int .i64 4)] = true := (and_r rs10)
end Go.Proofs.YtbndnhkhphkjgaaGreatDoor.InssF
