/- EditInserts: some rounds of the law, turned by the kernel. -/
import Derived.Test.YtbndnhkhphkjgaaGreatDoorInss1
namespace Go.Proofs.YtbndnhkhphkjgaaGreatDoor.InssF
open Go.Vai
set_option linter.unusedVariables false
set_option maxRecDepth 1000000
theorem rs2 : ((roundR P cl 100000 130 lp stA [(69, .int .i64 4)] [(69, .int .i64 5)] && roundR P cl 100000 130 lp stA [(69, .int .i64 5)] [(69, .int .i64 6)])) = true := by decide +kernel
theorem rd1_4 : roundR P cl 100000 130 lp stA [(69, .int .i64 4)] [(69, .int .i64 5)] = true := and_l rs2
theorem rd1_5 : roundR P cl 100000 130 lp stA [(69, .int .i64 5)] [(69, .int .i64 6)] = true := (and_r rs2)
end Go.Proofs.YtbndnhkhphkjgaaGreatDoor.InssF
