/- EditErrors: some rounds of the law, turned by the kernel. -/
import Derived.Test.YtbndnhkhphkjgaaGreatDoorErrs1
namespace Go.Proofs.YtbndnhkhphkjgaaGreatDoor.ErrsF
open Go.Vai
set_option maxRecDepth 1000000
theorem rs2 : (roundR P cl 100000 92 lp stA [(58, .int .i64 28)] [(58, .int .i64 29)]) = true := by decide +kernel
theorem rd28 : roundR P cl 100000 92 lp stA [(58, .int .i64 28)] [(58, .int .i64 29)] = true := rs2
end Go.Proofs.YtbndnhkhphkjgaaGreatDoor.ErrsF
