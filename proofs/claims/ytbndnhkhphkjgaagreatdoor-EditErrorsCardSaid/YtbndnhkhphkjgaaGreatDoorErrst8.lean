/- EditErrors: some rounds of the law, turned by the kernel. -/
import Derived.Test.YtbndnhkhphkjgaaGreatDoorErrs1
namespace Go.Proofs.YtbndnhkhphkjgaaGreatDoor.ErrsF
open Go.Vai
set_option maxRecDepth 1000000
theorem rs8 : (roundR P cl 100000 92 lp stA [(58, .int .i64 29)] [(58, .int .i64 30)]) = true := by decide +kernel
theorem rd29 : roundR P cl 100000 92 lp stA [(58, .int .i64 29)] [(58, .int .i64 30)] = true := rs8
end Go.Proofs.YtbndnhkhphkjgaaGreatDoor.ErrsF
