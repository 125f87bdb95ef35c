/- EditSets: some rounds of the law, turned by the kernel. -/
import Derived.Test.YtbndnhkhphkjgaaGreatDoorSets1
namespace Go.Proofs.YtbndnhkhphkjgaaGreatDoor.SetsF
open Go.Vai
set_option maxRecDepth 1000000
theorem rs7 : (roundR P cl 100000 138 lp stA [(114, .int .i64 14)] [(114, .int .i64 15)]) = true := by decide +kernel
theorem rd14 : roundR P cl 100000 138 lp stA [(114, .int .i64 14)] [(114, .int .i64 15)] = true := rs7
end Go.Proofs.YtbndnhkhphkjgaaGreatDoor.SetsF
