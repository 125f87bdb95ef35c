/- DeskFinds: one piece of the law, turned by the kernel. -/
import Derived.Test.YtlcnjeiblniikaaGreatDoorDesk1
namespace Go.Proofs.YtlcnjeiblniikaaGreatDoor.DeskF
open Go.Vai
set_option maxRecDepth 1000000
theorem seg3 : segR P cl 80 opsD stA 22 6 [(44, .bool true)] [(50, .bool true)] = true := by decide +kernel
end Go.Proofs.YtlcnjeiblniikaaGreatDoor.DeskF
