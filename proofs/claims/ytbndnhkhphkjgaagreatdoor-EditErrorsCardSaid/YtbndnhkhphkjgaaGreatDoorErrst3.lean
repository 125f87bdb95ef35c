/- EditErrors: some rounds of the law, turned by the kernel. -/
import Derived.Test.YtbndnhkhphkjgaaGreatDoorErrs1
namespace Go.Proofs.YtbndnhkhphkjgaaGreatDoor.ErrsF
open Go.Vai
set_option maxRecDepth 1000000
theorem rs3 : ((roundR P cl 100000 92 lp stA [] [(58, .int .i64 1)] && (roundR P cl 100000 92 lp stA [(58, .int .i64 11)] [(58, .int .i64 12)] && roundR P cl 100000 92 lp stA [(58, .int .i64 12)] [(58, .int .i64 13)]))) = true := by decide +kernel
theorem rd0 : roundR P cl 100000 92 lp stA [] [(58, .int .i64 1)] = true := and_l rs3
theorem rd11 : roundR P cl 100000 92 lp stA [(58, .int .i64 11)] [(58, .int .i64 12)] = true := and_l (and_r rs3)
theorem rd12 : roundR P cl 100000 92 lp stA [(58, .int .i64 12)] [(58, .int .i64 13)] = true := (and_r (and_r rs3))
end Go.Proofs.YtbndnhkhphkjgaaGreatDoor.ErrsF
