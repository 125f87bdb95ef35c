/- EditInserts: some rounds of the law, turned by the kernel. -/
import Derived.Test.YtbndnhkhphkjgaaGreatDoorInss1
namespace Go.Proofs.YtbndnhkhphkjgaaGreatDoor.InssF
open Go.Vai
set_option linter.unusedVariables false
set_option maxRecDepth 1000000
theorem rs5 : ((roundR P cl 100000 130 lp stA [(69, .int .i64 10)] [(69, .int .i64 11)] && roundR P cl 100000 130 lp stA [(69, .int .i64 11)] [(69, .int .i64 12)])) = true := by decide +kernel
theorem rd1_10 : roundR P cl 100000 130 lp stA [(69, .int .i64 10)] [(69, .int .i64 11)] = true := and_l rs5
theorem rd1_11 : roundR P cl 100000 130 lp stA [(69, .int .i64 11)] [(69, .int .i64 12)] = true := (and_r rs5)
end Go.Proofs.YtbndnhkhphkjgaaGreatDoor.InssF
