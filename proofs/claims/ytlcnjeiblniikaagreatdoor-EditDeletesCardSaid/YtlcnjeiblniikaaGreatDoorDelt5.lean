/- EditDeletes: some rounds of the law, turned by the kernel. -/
import Derived.Test.YtlcnjeiblniikaaGreatDoorDels1
namespace Go.Proofs.YtlcnjeiblniikaaGreatDoor.DelF
open Go.Vai
set_option maxRecDepth 1000000
theorem rs5 : (roundR P cl 100000 106 lp stA [(84, .int .i64 15)] [(84, .int .i64 16)]) = true := by decide +kernel
theorem rd15 : roundR P cl 100000 106 lp stA [(84, .int .i64 15)] [(84, .int .i64 16)] = true := rs5
end Go.Proofs.YtlcnjeiblniikaaGreatDoor.DelF
