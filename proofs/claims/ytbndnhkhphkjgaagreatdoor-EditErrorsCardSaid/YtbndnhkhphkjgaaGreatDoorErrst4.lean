/- EditErrors: some rounds of the law, turned by the kernel. -/
import Derived.Test.YtbndnhkhphkjgaaGreatDoorErrs1
namespace Go.Proofs.YtbndnhkhphkjgaaGreatDoor.ErrsF
open Go.Vai
set_option maxRecDepth 1000000
theorem rs4 : ((roundR P cl 100000 92 lp stA [(58, .int .i64 13)] [(58, .int .i64 14)] && roundR P cl 100000 92 lp stA [(58, .int .i64 14)] [(58, .int .i64 15)])) = true := by decide +kernel
theorem rd13 : roundR P cl 100000 92 lp stA [(58, .int .i64 13)] [(58, .int .i64 14)] = true := and_l rs4
theorem rd14 : roundR P cl 100000 92 lp stA [(58, .int .i64 14)] [(58, .int .i64 15)] = true := (and_r rs4)
end Go.Proofs.YtbndnhkhphkjgaaGreatDoor.ErrsF
