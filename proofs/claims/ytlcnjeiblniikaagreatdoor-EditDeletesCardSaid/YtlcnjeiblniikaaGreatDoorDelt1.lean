/- EditDeletes: some rounds of the law, turned by the kernel. -/
import Derived.Test.YtlcnjeiblniikaaGreatDoorDels1
namespace Go.Proofs.YtlcnjeiblniikaaGreatDoor.DelF
open Go.Vai
set_option maxRecDepth 1000000
theorem rs1 : (roundR P cl 100000 106 lp stA [(84, .int .i64 3)] [(84, .int .i64 4)] && (roundR P cl 100000 106 lp stA [(84, .int .i64 4)] [(84, .int .i64 5)] && roundR P cl 100000 106 lp stA [(84, .int .i64 5)] [(84, .int .i64 6)])) = true := by decide +kernel
theorem rd3 : roundR P cl 100000 106 lp stA [(84, .int .i64 3)] [(84, .int .i64 4)] = true := and_l rs1
theorem rd4 : roundR P cl 100000 106 lp stA [(84, .int .i64 4)] [(84, .int .i64 5)] = true := and_l (and_r rs1)
theorem rd5 : roundR P cl 100000 106 lp stA [(84, .int .i64 5)] [(84, .int .i64 6)] = true := (and_r (and_r rs1))
end Go.Proofs.YtlcnjeiblniikaaGreatDoor.DelF
