/- EditErrors: some rounds of the law, turned by the kernel. -/
import Derived.Test.YtbndnhkhphkjgaaGreatDoorErrs1
namespace Go.Proofs.YtbndnhkhphkjgaaGreatDoor.ErrsF
open Go.Vai
set_option maxRecDepth 1000000
theorem rs6 : ((roundR P cl 100000 92 lp stA [(58, .int .i64 16)] [(58, .int .i64 17)] && roundR P cl 100000 92 lp stA [(58, .int .i64 22)] [(58, .int .i64 23)])) = true := by decide +kernel
theorem rd16 : roundR P cl 100000 92 lp stA [(58, .int .i64 16)] [(58, .int .i64 17)] = true := and_l rs6
theorem rd22 : roundR P cl 100000 92 lp stA [(58, .int .i64 22)] [(58, .int .i64 23)] = true := (and_r rs6)
end Go.Proofs.YtbndnhkhphkjgaaGreatDoor.ErrsF
