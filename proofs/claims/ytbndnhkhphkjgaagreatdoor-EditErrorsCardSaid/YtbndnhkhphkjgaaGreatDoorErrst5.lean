/- EditErrors: some rounds of the law, turned by the kernel. -/
import Derived.Test.YtbndnhkhphkjgaaGreatDoorErrs1
namespace Go.Proofs.YtbndnhkhphkjgaaGreatDoor.ErrsF
open Go.Vai
set_option maxRecDepth 1000000
theorem rs5 : ((roundR P cl 100000 92 lp stA [(58, .int .i64 10)] [(58, .int .i64 11)] && (roundR P cl 100000 92 lp stA [(58, .int .i64 20)] [(58, .int .i64 21)] && (roundR P cl 100000 92 lp stA [(58, .int .i64 21)] [(58, .int .i64 22)] && roundR P cl 100000 92 lp stA [(58, .int .i64 23)] [(58, .int .i64 24)])))) = true := by decide +kernel
theorem rd10 : roundR P cl 100000 92 lp stA [(58, .int .i64 10)] [(58, .int .i64 11)] = true := and_l rs5
theorem rd20 : roundR P cl 100000 92 lp stA [(58, .int .i64 20)] [(58, .int .i64 21)] = true := and_l (and_r rs5)
theorem rd21 : roundR P cl 100000 92 lp stA [(58, .int .i64 21)] [(58, .int .i64 22)] = true := and_l (and_r (and_r rs5))
theorem rd23 : roundR P cl 100000 92 lp stA [(58, .int .i64 23)] [(58, .int .i64 24)] = true := (and_r (and_r (and_r rs5)))
end Go.Proofs.YtbndnhkhphkjgaaGreatDoor.ErrsF
