/- EditErrors: some rounds of the law, turned by the kernel. -/
import Derived.Test.YtbndnhkhphkjgaaGreatDoorErrs1
namespace Go.Proofs.YtbndnhkhphkjgaaGreatDoor.ErrsF
open Go.Vai
set_option maxRecDepth 1000000
theorem rs7 : ((roundR P cl 100000 92 lp stA [(58, .int .i64 17)] [(58, .int .i64 18)] && (roundR P cl 100000 92 lp stA [(58, .int .i64 24)] [(58, .int .i64 25)] && roundR P cl 100000 92 lp stA [(58, .int .i64 25)] [(58, .int .i64 26)]))) = true := by decide +kernel
theorem rd17 : roundR P cl 100000 92 lp stA [(58, .int .i64 17)] [(58, .int .i64 18)] = true := and_l rs7
theorem rd24 : roundR P cl 100000 92 lp stA [(58, .int .i64 24)] [(58, .int .i64 25)] = true := and_l (and_r rs7)
theorem rd25 : roundR P cl 100000 92 lp stA [(58, .int .i64 25)] [(58, .int .i64 26)] = true := (and_r (and_r rs7))
end Go.Proofs.YtbndnhkhphkjgaaGreatDoor.ErrsF
