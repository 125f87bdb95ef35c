/- EditErrors: the loop's end. -/
import Derived.Test.YtbndnhkhphkjgaaGreatDoorErrs1
namespace Go.Proofs.YtbndnhkhphkjgaaGreatDoor.ErrsF
open Go.Vai
set_option maxRecDepth 1000000
theorem rend : endR P cl 100000 92 lp c9 2 2 stA [(58, .int .i64 31)] = true := by decide +kernel
end Go.Proofs.YtbndnhkhphkjgaaGreatDoor.ErrsF
