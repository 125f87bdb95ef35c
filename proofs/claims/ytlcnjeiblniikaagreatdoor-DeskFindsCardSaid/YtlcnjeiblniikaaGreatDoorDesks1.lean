/- DeskFinds: one piece of the law, turned by the kernel. -/
import Derived.Test.YtlcnjeiblniikaaGreatDoorDesk1
namespace Go.Proofs.YtlcnjeiblniikaaGreatDoor.DeskF
open Go.Vai
set_option maxRecDepth 1000000
theorem seg1 : segR P cl 80 opsD stA 7 9 [(29, .bool true)] [(38, .bool true)] = true := by decide +kernel
end Go.Proofs.YtlcnjeiblniikaaGreatDoor.DeskF
