/- EditSets: some rounds of the law, turned by the kernel. -/
import Derived.Test.YtbndnhkhphkjgaaGreatDoorSets1
namespace Go.Proofs.YtbndnhkhphkjgaaGreatDoor.SetsF
open Go.Vai
set_option maxRecDepth 1000000
theorem rs3 : ((roundR P cl 100000 138 lp stA [(114, .int .i64 9)] [(114, .int .i64 10)] && (roundR P cl 100000 138 lp stA [(114, .int .i64 10)] [(114, .int .i64 11)] && roundR P cl 100000 138 lp stA [(114, .int .i64 11)] [(114, .int .i64 12)]))) = true := by decide +kernel
theorem rd9 : roundR P cl 100000 138 lp stA [(114, .int .i64 9)] [(114, .int .i64 10)] = true := and_l rs3
theorem rd10 : roundR P cl 100000 138 lp stA [(114, .int .i64 10)] [(114, .int .i64 11)] = true := and_l (and_r rs3)
theorem rd11 : roundR P cl 100000 138 lp stA [(114, .int .i64 11)] [(114, .int .i64 12)] = true := (and_r (and_r rs3))
end Go.Proofs.YtbndnhkhphkjgaaGreatDoor.SetsF
