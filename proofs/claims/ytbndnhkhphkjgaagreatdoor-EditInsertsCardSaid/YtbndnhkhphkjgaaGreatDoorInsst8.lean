/- EditInserts: some rounds of the law, turned by the kernel. -/
import Derived.Test.YtbndnhkhphkjgaaGreatDoorInss1
namespace Go.Proofs.YtbndnhkhphkjgaaGreatDoor.InssF
open Go.Vai
set_option linter.unusedVariables false
set_option maxRecDepth 1000000
theorem rs8 : (roundR P cl 100000 130 lp stA [(69, .int .i64 16)] [(69, .int .i64 17)]) = true := by decide +kernel
theorem rd1_16 : roundR P cl 100000 130 lp stA [(69, .int .i64 16)] [(69, .int .i64 17)] = true := rs8
end Go.Proofs.YtbndnhkhphkjgaaGreatDoor.InssF
