/- EditDeletes: some rounds of the law, turned by the kernel. -/
import Derived.Test.YtlcnjeiblniikaaGreatDoorDels1
namespace Go.Proofs.YtlcnjeiblniikaaGreatDoor.DelF
open Go.Vai
set_option maxRecDepth 1000000
theorem rs6 : (roundR P cl 100000 106 lp stA [(84, .int .i64 16)] [(84, .int .i64 17)]) = true := by decide +kernel
theorem rd16 : roundR P cl 100000 106 lp stA [(84, .int .i64 16)] [(84, .int .i64 17)] = true := rs6
end Go.Proofs.YtlcnjeiblniikaaGreatDoor.DelF
