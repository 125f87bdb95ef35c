/- TopAliases: one piece of the law, turned by the kernel, the flag down and up. -/
import Derived.Test.YtlcnjeiblniikaaGreatDoorTopL1
namespace Go.Proofs.YtlcnjeiblniikaaGreatDoor.TopF
open Go.Vai
set_option maxRecDepth 1000000
theorem goF4 : goR P cl 100000 185 [pc 9] sF4 sF5 = true := by decide +kernel
theorem goT4 : goR P cl 100000 185 [pc 9] sT4 sT5 = true := by decide +kernel
end Go.Proofs.YtlcnjeiblniikaaGreatDoor.TopF
