/- EditSets: some rounds of the law, turned by the kernel. -/
import Derived.Test.YtbndnhkhphkjgaaGreatDoorSets1
namespace Go.Proofs.YtbndnhkhphkjgaaGreatDoor.SetsF
open Go.Vai
set_option maxRecDepth 1000000
theorem rs6 : ((roundR P cl 100000 138 lp stA [(114, .int .i64 5)] [(114, .int .i64 6)] && roundR P cl 100000 138 lp stA [(114, .int .i64 8)] [(114, .int .i64 9)])) = true := by decide +kernel
theorem rd5 : roundR P cl 100000 138 lp stA [(114, .int .i64 5)] [(114, .int .i64 6)] = true := and_l rs6
theorem rd8 : roundR P cl 100000 138 lp stA [(114, .int .i64 8)] [(114, .int .i64 9)] = true := (and_r rs6)
end Go.Proofs.YtbndnhkhphkjgaaGreatDoor.SetsF
