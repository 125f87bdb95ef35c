/- EditDeletes: the loop's end. -/
import Derived.Test.YtlcnjeiblniikaaGreatDoorDels1
namespace Go.Proofs.YtlcnjeiblniikaaGreatDoor.DelF
open Go.Vai
set_option maxRecDepth 1000000
theorem rend : endR P cl 100000 106 lp c9 0 2 stA [(84, .int .i64 18)] = true := by decide +kernel
end Go.Proofs.YtlcnjeiblniikaaGreatDoor.DelF
