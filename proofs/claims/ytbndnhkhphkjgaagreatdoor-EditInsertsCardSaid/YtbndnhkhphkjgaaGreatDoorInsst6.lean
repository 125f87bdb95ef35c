/- EditInserts: some rounds of the law, turned by the kernel. -/
import Derived.Test.YtbndnhkhphkjgaaGreatDoorInss1
namespace Go.Proofs.YtbndnhkhphkjgaaGreatDoor.InssF
open Go.Vai
set_option linter.unusedVariables false
set_option maxRecDepth 1000000
theorem rs6 : ((roundR P cl 100000 130 lp stA [(69, .int .i64 12)] [(69, .int .i64 13)] && roundR P cl 100000 130 lp stA [(69, .int .i64 13)] [(69, .int .i64 14)])) = true := by decide +kernel
theorem rd1_12 : roundR P cl 100000 130 lp stA [(69, .int .i64 12)] [(69, .int .i64 13)] = true := and_l rs6
theorem rd1_13 : roundR P cl 100000 130 lp stA [(69, .int .i64 13)] [(69, .int .i64 14)] = true := (and_r rs6)
end Go.Proofs.YtbndnhkhphkjgaaGreatDoor.InssF
