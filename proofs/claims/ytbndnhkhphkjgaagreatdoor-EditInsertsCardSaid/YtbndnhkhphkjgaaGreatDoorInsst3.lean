/- EditInserts: some rounds of the law, turned by the kernel. -/
import Derived.Test.YtbndnhkhphkjgaaGreatDoorInss1
namespace Go.Proofs.YtbndnhkhphkjgaaGreatDoor.InssF
open Go.Vai
set_option linter.unusedVariables false
set_option maxRecDepth 1000000
theorem rs3 : ((roundR P cl 100000 130 lp stA [(69, .int .i64 6)] [(69, .int .i64 7)] && roundR P cl 100000 130 lp stA [(69, .int .i64 7)] [(69, .int .i64 8)])) = true := by decide +kernel
theorem rd1_6 : roundR P cl 100000 130 lp stA [(69, .int .i64 6)] [(69, .int .i64 7)] = true := and_l rs3
theorem rd1_7 : roundR P cl 100000 130 lp stA [(69, .int .i64 7)] [(69, .int .i64 8)] = true := (and_r rs3)
end Go.Proofs.YtbndnhkhphkjgaaGreatDoor.InssF
