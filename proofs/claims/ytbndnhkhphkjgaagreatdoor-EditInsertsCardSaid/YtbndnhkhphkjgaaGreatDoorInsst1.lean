/- EditInserts: some rounds of the law, turned by the kernel. -/
import Derived.Test.YtbndnhkhphkjgaaGreatDoorInss1
namespace Go.Proofs.YtbndnhkhphkjgaaGreatDoor.InssF
open Go.Vai
set_option linter.unusedVariables false
set_option maxRecDepth 1000000
theorem rs1 : ((roundR P cl 100000 130 lp stA [(69, .int .i64 2)] [(69, .int .i64 3)] && roundR P cl 100000 130 lp stA [(69, .int .i64 3)] [(69, .int .i64 4)])) = true := by decide +kernel
theorem rd1_2 : roundR P cl 100000 130 lp stA [(69, .int .i64 2)] [(69, .int .i64 3)] = true := and_l rs1
theorem rd1_3 : roundR P cl 100000 130 lp stA [(69, .int .i64 3)] [(69, .int .i64 4)] = true := (and_r rs1)
end Go.Proofs.YtbndnhkhphkjgaaGreatDoor.InssF
