/- EditSets: some rounds of the law, turned by the kernel. -/
import Derived.Test.YtbndnhkhphkjgaaGreatDoorSets1
namespace Go.Proofs.YtbndnhkhphkjgaaGreatDoor.SetsF
open Go.Vai
set_option maxRecDepth 1000000
theorem rs2 : ((roundR P cl 100000 138 lp stA [(114, .int .i64 6)] [(114, .int .i64 7)] && roundR P cl 100000 138 lp stA [(114, .int .i64 7)] [(114, .int .i64 8)])) = true := by decide +kernel
theorem rd6 : roundR P cl 100000 138 lp stA [(114, .int .i64 6)] [(114, .int .i64 7)] = true := and_l rs2
theorem rd7 : roundR P cl 100000 138 lp stA [(114, .int .i64 7)] [(114, .int .i64 8)] = true := (and_r rs2)
end Go.Proofs.YtbndnhkhphkjgaaGreatDoor.SetsF
