/- EditSets: some rounds of the law, turned by the kernel. -/
import Derived.Test.YtbndnhkhphkjgaaGreatDoorSets1
namespace Go.Proofs.YtbndnhkhphkjgaaGreatDoor.SetsF
open Go.Vai
set_option maxRecDepth 1000000
theorem rs5 : (roundR P cl 100000 138 lp stA [(114, .int .i64 15)] [(114, .int .i64 16)]) = true := by decide +kernel
theorem rd15 : roundR P cl 100000 138 lp stA [(114, .int .i64 15)] [(114, .int .i64 16)] = true := rs5
end Go.Proofs.YtbndnhkhphkjgaaGreatDoor.SetsF
