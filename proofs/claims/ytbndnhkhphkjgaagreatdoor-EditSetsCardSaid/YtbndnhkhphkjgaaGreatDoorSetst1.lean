/- EditSets: some rounds of the law, turned by the kernel. -/
import Derived.Test.YtbndnhkhphkjgaaGreatDoorSets1
namespace Go.Proofs.YtbndnhkhphkjgaaGreatDoor.SetsF
open Go.Vai
set_option maxRecDepth 1000000
theorem rs1 : ((roundR P cl 100000 138 lp stA [(114, .int .i64 3)] [(114, .int .i64 4)] && roundR P cl 100000 138 lp stA [(114, .int .i64 4)] [(114, .int .i64 5)])) = true := by decide +kernel
theorem rd3 : roundR P cl 100000 138 lp stA [(114, .int .i64 3)] [(114, .int .i64 4)] = true := and_l rs1
theorem rd4 : roundR P cl 100000 138 lp stA [(114, .int .i64 4)] [(114, .int .i64 5)] = true := (and_r rs1)
end Go.Proofs.YtbndnhkhphkjgaaGreatDoor.SetsF
