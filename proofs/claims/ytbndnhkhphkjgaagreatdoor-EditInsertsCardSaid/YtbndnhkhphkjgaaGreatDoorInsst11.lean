/- EditInserts: some rounds of the law, turned by the kernel. -/
import Derived.Test.YtbndnhkhphkjgaaGreatDoorInss1
namespace Go.Proofs.YtbndnhkhphkjgaaGreatDoor.InssF
open Go.Vai
set_option linter.unusedVariables false
set_option maxRecDepth 1000000
theorem rs11 : (roundR P cl 100000 130 lp2 stB [(106, .int .i64 4)] [(106, .int .i64 5)]) = true := by decide +kernel
theorem rd2_4 : roundR P cl 100000 130 lp2 stB [(106, .int .i64 4)] [(106, .int .i64 5)] = true := rs11
end Go.Proofs.YtbndnhkhphkjgaaGreatDoor.InssF
