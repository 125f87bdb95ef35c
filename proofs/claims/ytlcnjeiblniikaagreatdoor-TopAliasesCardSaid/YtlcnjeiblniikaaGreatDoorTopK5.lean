/- TopAliases: one piece of the law, turned by the kernel, the flag down and up. -/
import Derived.Test.YtlcnjeiblniikaaGreatDoorTopL1
namespace Go.Proofs.YtlcnjeiblniikaaGreatDoor.TopF
open Go.Vai
set_option maxRecDepth 1000000
theorem goF5 : goR P cl 100000 185 [pc 10, pc 11, pc 12, pc 13, pc 14] sF5 sF6 = true := by decide +kernel
theorem goT5 : goR P cl 100000 185 [pc 10, pc 11, pc 12, pc 13, pc 14] sT5 sT6 = true := by decide +kernel
end Go.Proofs.YtlcnjeiblniikaaGreatDoor.TopF
