/- EditSets: the loop's end. -/
import Derived.Test.YtbndnhkhphkjgaaGreatDoorSets1
namespace Go.Proofs.YtbndnhkhphkjgaaGreatDoor.SetsF
open Go.Vai
set_option maxRecDepth 1000000
theorem rend : endR P cl 100000 138 lp c9 0 2 stA [(114, .int .i64 16)] = true := by decide +kernel
end Go.Proofs.YtbndnhkhphkjgaaGreatDoor.SetsF
