/- EditSets: some rounds of the law, turned by the kernel. -/
import Derived.Test.YtbndnhkhphkjgaaGreatDoorSets1
namespace Go.Proofs.YtbndnhkhphkjgaaGreatDoor.SetsF
open Go.Vai
set_option maxRecDepth 1000000
theorem rs0 : ((roundR P cl 100000 138 lp stA [] [(114, .int .i64 1)] && (roundR P cl 100000 138 lp stA [(114, .int .i64 1)] [(114, .int .i64 2)] && roundR P cl 100000 138 lp stA [(114, .int .i64 2)] [(114, .int .i64 3)]))) = true := by decide +kernel
theorem rd0 : roundR P cl 100000 138 lp stA [] [(114, .int .i64 1)] = true := and_l rs0
theorem rd1 : roundR P cl 100000 138 lp stA [(114, .int .i64 1)] [(114, .int .i64 2)] = true := and_l (and_r rs0)
theorem rd2 : roundR P cl 100000 138 lp stA [(114, .int .i64 2)] [(114, .int .i64 3)] = true := (and_r (and_r rs0))
end Go.Proofs.YtbndnhkhphkjgaaGreatDoor.SetsF
