/- EditDeletes: some rounds of the law, turned by the kernel. -/
import Derived.Test.YtlcnjeiblniikaaGreatDoorDels1
namespace Go.Proofs.YtlcnjeiblniikaaGreatDoor.DelF
open Go.Vai
set_option maxRecDepth 1000000
theorem rs0 : (roundR P cl 100000 106 lp stA [] [(84, .int .i64 1)]) = true := by decide +kernel
theorem rd0 : roundR P cl 100000 106 lp stA [] [(84, .int .i64 1)] = true := rs0
end Go.Proofs.YtlcnjeiblniikaaGreatDoor.DelF
