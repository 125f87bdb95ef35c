/- EditDeletes: some rounds of the law, turned by the kernel. -/
import Derived.Test.YtlcnjeiblniikaaGreatDoorDels1
namespace Go.Proofs.YtlcnjeiblniikaaGreatDoor.DelF
open Go.Vai
set_option maxRecDepth 1000000
theorem rs9 : (roundR P cl 100000 106 lp stA [(84, .int .i64 2)] [(84, .int .i64 3)]) = true := by decide +kernel
theorem rd2 : roundR P cl 100000 106 lp stA [(84, .int .i64 2)] [(84, .int .i64 3)] = true := rs9
end Go.Proofs.YtlcnjeiblniikaaGreatDoor.DelF
