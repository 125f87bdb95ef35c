/- EditInserts: some rounds of the law, turned by the kernel. -/
import Derived.Test.YtbndnhkhphkjgaaGreatDoorInss1
namespace Go.Proofs.YtbndnhkhphkjgaaGreatDoor.InssF
open Go.Vai
set_option linter.unusedVariables false
set_option maxRecDepth 1000000
theorem rs7 : ((roundR P cl 100000 130 lp stA [(69, .int .i64 14)] [(69, .int .i64 15)] && roundR P cl 100000 130 lp stA [(69, .int .i64 15)] [(69, .int .i64 16)])) = true := by decide +kernel
theorem rd1_14 : roundR P cl 100000 130 lp stA [(69, .int .i64 14)] [(69, .int .i64 15)] = true := and_l rs7
theorem rd1_15 : roundR P cl 100000 130 lp stA [(69, .int .i64 15)] [(69, .int .i64 16)] = true := (and_r rs7)
end Go.Proofs.YtbndnhkhphkjgaaGreatDoor.InssF
