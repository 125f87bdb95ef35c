/- EditDeletes: some rounds of the law, turned by the kernel. -/
import Derived.Test.YtlcnjeiblniikaaGreatDoorDels1
namespace Go.Proofs.YtlcnjeiblniikaaGreatDoor.DelF
open Go.Vai
set_option maxRecDepth 1000000
theorem rs3 : (roundR P cl 100000 106 lp stA [(84, .int .i64 9)] [(84, .int .i64 10)] && (roundR P cl 100000 106 lp stA [(84, .int .i64 10)] [(84, .int .i64 11)] && roundR P cl 100000 106 lp stA [(84, .int .i64 11)] [(84, .int .i64 12)])) = true := by decide +kernel
theorem rd9 : roundR P cl 100000 106 lp stA [(84, .int .i64 9)] [(84, .int .i64 10)] = true := and_l rs3
theorem rd10 : roundR P cl 100000 106 lp stA [(84, .int .i64 10)] [(84, .int .i64 11)] = true := and_l (and_r rs3)
theorem rd11 : roundR P cl 100000 106 lp stA [(84, .int .i64 11)] [(84, .int .i64 12)] = true := (and_r (and_r rs3))
end Go.Proofs.YtlcnjeiblniikaaGreatDoor.DelF
