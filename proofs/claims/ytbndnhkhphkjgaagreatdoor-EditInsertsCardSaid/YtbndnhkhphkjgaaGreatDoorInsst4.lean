/- EditInserts: some rounds of the law, turned by the kernel. -/
import Derived.Test.YtbndnhkhphkjgaaGreatDoorInss1
namespace Go.Proofs.YtbndnhkhphkjgaaGreatDoor.InssF
open Go.Vai
set_option linter.unusedVariables false
set_option maxRecDepth 1000000
theorem rs4 : ((roundR P cl 100000 130 lp stA [(69, .int .i64 8)] [(69, .int .i64 9)] && roundR P cl 100000 130 lp stA [(69, .int .i64 9)] [(69, .int .i64 10)])) = true := by decide +kernel
theorem rd1_8 : roundR P cl 100000 130 lp stA [(69, .int .i64 8)] [(69, .int .i64 9)] = true := and_l rs4
theorem rd1_9 : roundR P cl 100000 130 lp stA [(69, .int .i64 9)] [(69, .int .i64 10)] = true := (and_r rs4)
end Go.Proofs.YtbndnhkhphkjgaaGreatDoor.InssF
