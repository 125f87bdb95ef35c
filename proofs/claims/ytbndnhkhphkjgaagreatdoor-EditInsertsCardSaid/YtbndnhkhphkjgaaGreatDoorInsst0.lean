/- EditInserts: some rounds of the law, turned by the kernel. -/
import Derived.Test.YtbndnhkhphkjgaaGreatDoorInss1
namespace Go.Proofs.YtbndnhkhphkjgaaGreatDoor.InssF
open Go.Vai
set_option linter.unusedVariables false
set_option maxRecDepth 1000000
theorem rs0 : ((roundR P cl 100000 130 lp stA [] [(69, .int .i64 1)] && roundR P cl 100000 130 lp stA [(69, .int .i64 1)] [(69, .int .i64 2)])) = true := by decide +kernel
theorem rd1_0 : roundR P cl 100000 130 lp stA [] [(69, .int .i64 1)] = true := and_l rs0
theorem rd1_1 : roundR P cl 100000 130 lp stA [(69, .int .i64 1)] [(69, .int .i64 2)] = true := (and_r rs0)
end Go.Proofs.YtbndnhkhphkjgaaGreatDoor.InssF
