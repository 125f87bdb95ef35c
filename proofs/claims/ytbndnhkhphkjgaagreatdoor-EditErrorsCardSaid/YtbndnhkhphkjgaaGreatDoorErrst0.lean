/- EditErrors: some rounds of the law, turned by the kernel. -/
import Derived.Test.YtbndnhkhphkjgaaGreatDoorErrs1
namespace Go.Proofs.YtbndnhkhphkjgaaGreatDoor.ErrsF
open Go.Vai
set_option maxRecDepth 1000000
theorem rs0 : ((roundR P cl 100000 92 lp stA [(58, .int .i64 1)] [(58, .int .i64 2)] && (roundR P cl 100000 92 lp stA [(58, .int .i64 2)] [(58, .int .i64 3)] && (roundR P cl 100000 92 lp stA [(58, .int .i64 3)] [(58, .int .i64 4)] && (roundR P cl 100000 92 lp stA [(58, .int .i64 4)] [(58, .int .i64 5)] && (roundR P cl 100000 92 lp stA [(58, .int .i64 5)] [(58, .int .i64 6)] && (roundR P cl 100000 92 lp stA [(58, .int .i64 6)] [(58, .int .i64 7)] && (roundR P cl 100000 92 lp stA [(58, .int .i64 7)] [(58, .int .i64 8)] && (roundR P cl 100000 92 lp stA [(58, .int .i64 8)] [(58, .int .i64 9)] && roundR P cl 100000 92 lp stA [(58, .int .i64 9)] [(58, .int .i64 10)]))))))))) = true := by decide +kernel
theorem rd1 : roundR P cl 100000 92 lp stA [(58, .int .i64 1)] [(58, .int .i64 2)] = true := and_l rs0
theorem rd2 : roundR P cl 100000 92 lp stA [(58, .int .i64 2)] [(58, .int .i64 3)] = true := and_l (and_r rs0)
theorem rd3 : roundR P cl 100000 92 lp stA [(58, .int .i64 3)] [(58, .int .i64 4)] = true := and_l (and_r (and_r rs0))
theorem rd4 : roundR P cl 100000 92 lp stA [(58, .int .i64 4)] [(58, .int .i64 5)] = true := and_l (and_r (and_r (and_r rs0)))
theorem rd5 : roundR P cl 100000 92 lp stA [(58, .int .i64 5)] [(58, .int .i64 6)] = true := and_l (and_r (and_r (and_r (and_r rs0))))
theorem rd6 : roundR P cl 100000 92 lp stA [(58, .int .i64 6)] [(58, .int .i64 7)] = true := and_l (and_r (and_r (and_r (and_r (and_r rs0)))))
theorem rd7 : roundR P cl 100000 92 lp stA [(58, .int .i64 7)] [(58, .int .i64 8)] = true := and_l (and_r (and_r (and_r (and_r (and_r (and_r rs0))))))
theorem rd8 : roundR P cl 100000 92 lp stA [(58, .int .i64 8)] [(58, .int .i64 9)] = true := and_l (and_r (and_r (and_r (and_r (and_r (and_r (and_r rs0)))))))
theorem rd9 : roundR P cl 100000 92 lp stA [(58, .int .i64 9)] [(58, .int .i64 10)] = true := (and_r (and_r (and_r (and_r (and_r (and_r (and_r (and_r rs0))))))))
end Go.Proofs.YtbndnhkhphkjgaaGreatDoor.ErrsF
