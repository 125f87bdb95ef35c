/- EditDeletes: some rounds of the law, turned by the kernel. -/
import Derived.Test.YtlcnjeiblniikaaGreatDoorDels1
namespace Go.Proofs.YtlcnjeiblniikaaGreatDoor.DelF
open Go.Vai
set_option maxRecDepth 1000000
theorem rs2 : (roundR P cl 100000 106 lp stA [(84, .int .i64 6)] [(84, .int .i64 7)] && (roundR P cl 100000 106 lp stA [(84, .int .i64 7)] [(84, .int .i64 8)] && roundR P cl 100000 106 lp stA [(84, .int .i64 8)] [(84, .int .i64 9)])) = true := by decide +kernel
theorem rd6 : roundR P cl 100000 106 lp stA [(84, .int .i64 6)] [(84, .int .i64 7)] = true := and_l rs2
theorem rd7 : roundR P cl 100000 106 lp stA [(84, .int .i64 7)] [(84, .int .i64 8)] = true := and_l (and_r rs2)
theorem rd8 : roundR P cl 100000 106 lp stA [(84, .int .i64 8)] [(84, .int .i64 9)] = true := (and_r (and_r rs2))
end Go.Proofs.YtlcnjeiblniikaaGreatDoor.DelF
