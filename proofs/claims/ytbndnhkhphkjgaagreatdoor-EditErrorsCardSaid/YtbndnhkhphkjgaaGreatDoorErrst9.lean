/- EditErrors: some rounds of the law, turned by the kernel. -/
import Derived.Test.YtbndnhkhphkjgaaGreatDoorErrs1
namespace Go.Proofs.YtbndnhkhphkjgaaGreatDoor.ErrsF
open Go.Vai
set_option maxRecDepth 1000000
theorem rs9 : (roundR P cl 100000 92 lp stA [(58, .int .i64 30)] [(58, .int .i64 31)]) = true := by decide +kernel
theorem rd30 : roundR P cl 100000 92 lp stA [(58, .int .i64 30)] [(58, .int .i64 31)] = true := rs9
end Go.Proofs.YtbndnhkhphkjgaaGreatDoor.ErrsF
