/- DeskFinds: one piece of the law, turned by the kernel. -/
import Derived.Test.YtlcnjeiblniikaaGreatDoorDesk1
namespace Go.Proofs.YtlcnjeiblniikaaGreatDoor.DeskF
open Go.Vai
set_option maxRecDepth 1000000
theorem seg7 : segR P cl 80 opsD stA 49 9 [(71, .bool true)] [(2, .bool true)] = true := by decide +kernel
end Go.Proofs.YtlcnjeiblniikaaGreatDoor.DeskF
