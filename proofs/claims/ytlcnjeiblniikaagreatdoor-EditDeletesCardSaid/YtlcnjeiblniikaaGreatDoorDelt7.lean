/- EditDeletes: some rounds of the law, turned by the kernel. -/
import Derived.Test.YtlcnjeiblniikaaGreatDoorDels1
namespace Go.Proofs.YtlcnjeiblniikaaGreatDoor.DelF
open Go.Vai
set_option maxRecDepth 1000000
theorem rs7 : (roundR P cl 100000 106 lp stA [(84, .int .i64 17)] [(84, .int .i64 18)]) = true := by decide +kernel
theorem rd17 : roundR P cl 100000 106 lp stA [(84, .int .i64 17)] [(84, .int .i64 18)] = true := rs7
end Go.Proofs.YtlcnjeiblniikaaGreatDoor.DelF
