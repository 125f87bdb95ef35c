/- EditSets: some rounds of the law, turned by the kernel. -/
import Derived.Test.YtbndnhkhphkjgaaGreatDoorSets1
namespace Go.Proofs.YtbndnhkhphkjgaaGreatDoor.SetsF
open Go.Vai
set_option maxRecDepth 1000000
theorem rs4 : ((roundR P cl 100000 138 lp stA [(114, .int .i64 12)] [(114, .int .i64 13)] && roundR P cl 100000 138 lp stA [(114, .int .i64 13)] [(114, .int .i64 14)])) = true := by decide +kernel
theorem rd12 : roundR P cl 100000 138 lp stA [(114, .int .i64 12)] [(114, .int .i64 13)] = true := and_l rs4
theorem rd13 : roundR P cl 100000 138 lp stA [(114, .int .i64 13)] [(114, .int .i64 14)] = true := (and_r rs4)
end Go.Proofs.YtbndnhkhphkjgaaGreatDoor.SetsF
