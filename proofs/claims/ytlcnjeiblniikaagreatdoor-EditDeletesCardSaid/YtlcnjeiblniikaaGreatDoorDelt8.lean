/- EditDeletes: some rounds of the law, turned by the kernel. -/
import Derived.Test.YtlcnjeiblniikaaGreatDoorDels1
namespace Go.Proofs.YtlcnjeiblniikaaGreatDoor.DelF
open Go.Vai
set_option maxRecDepth 1000000
theorem rs8 : (roundR P cl 100000 106 lp stA [(84, .int .i64 1)] [(84, .int .i64 2)]) = true := by decide +kernel
theorem rd1 : roundR P cl 100000 106 lp stA [(84, .int .i64 1)] [(84, .int .i64 2)] = true := rs8
end Go.Proofs.YtlcnjeiblniikaaGreatDoor.DelF
