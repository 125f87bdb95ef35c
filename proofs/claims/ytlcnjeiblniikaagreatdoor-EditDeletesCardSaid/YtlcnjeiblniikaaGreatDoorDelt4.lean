/- EditDeletes: some rounds of the law, turned by the kernel. -/
import Derived.Test.YtlcnjeiblniikaaGreatDoorDels1
namespace Go.Proofs.YtlcnjeiblniikaaGreatDoor.DelF
open Go.Vai
set_option maxRecDepth 1000000
theorem rs4 : (roundR P cl 100000 106 lp stA [(84, .int .i64 12)] [(84, .int .i64 13)] && (roundR P cl 100000 106 lp stA [(84, .int .i64 13)] [(84, .int .i64 14)] && roundR P cl 100000 106 lp stA [(84, .int .i64 14)] [(84, .int .i64 15)])) = true := by decide +kernel
theorem rd12 : roundR P cl 100000 106 lp stA [(84, .int .i64 12)] [(84, .int .i64 13)] = true := and_l rs4
theorem rd13 : roundR P cl 100000 106 lp stA [(84, .int .i64 13)] [(84, .int .i64 14)] = true := and_l (and_r rs4)
theorem rd14 : roundR P cl 100000 106 lp stA [(84, .int .i64 14)] [(84, .int .i64 15)] = true := (and_r (and_r rs4))
end Go.Proofs.YtlcnjeiblniikaaGreatDoor.DelF
