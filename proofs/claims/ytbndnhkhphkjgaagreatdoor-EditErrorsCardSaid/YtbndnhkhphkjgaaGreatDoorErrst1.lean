/- EditErrors: some rounds of the law, turned by the kernel. -/
import Derived.Test.YtbndnhkhphkjgaaGreatDoorErrs1
namespace Go.Proofs.YtbndnhkhphkjgaaGreatDoor.ErrsF
open Go.Vai
set_option maxRecDepth 1000000
theorem rs1 : ((roundR P cl 100000 92 lp stA [(58, .int .i64 15)] [(58, .int .i64 16)] && (roundR P cl 100000 92 lp stA [(58, .int .i64 18)] [(58, .int .i64 19)] && (roundR P cl 100000 92 lp stA [(58, .int .i64 19)] [(58, .int .i64 20)] && (roundR P cl 100000 92 lp stA [(58, .int .i64 26)] [(58, .int .i64 27)] && roundR P cl 100000 92 lp stA [(58, .int .i64 27)] [(58, .int .i64 28)]))))) = true := by decide +kernel
theorem rd15 : roundR P cl 100000 92 lp stA [(58, .int .i64 15)] [(58, .int .i64 16)] = true := and_l rs1
theorem rd18 : roundR P cl 100000 92 lp stA [(58, .int .i64 18)] [(58, .int .i64 19)] = true := and_l (and_r rs1)
theorem rd19 : roundR P cl 100000 92 lp stA [(58, .int .i64 19)] [(58, .int .i64 20)] = true := and_l (and_r (and_r rs1))
theorem rd26 : roundR P cl 100000 92 lp stA [(58, .int .i64 26)] [(58, .int .i64 27)] = true := and_l (and_r (and_r (and_r rs1)))
theorem rd27 : roundR P cl 100000 92 lp stA [(58, .int .i64 27)] [(58, .int .i64 28)] = true := (and_r (and_r (and_r (and_r rs1))))
end Go.Proofs.YtbndnhkhphkjgaaGreatDoor.ErrsF
