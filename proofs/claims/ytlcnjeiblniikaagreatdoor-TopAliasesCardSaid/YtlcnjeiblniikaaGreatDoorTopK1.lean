/- TopAliases: one piece of the law, turned by the kernel, the flag down and up. -/
import Derived.Test.YtlcnjeiblniikaaGreatDoorTopL1
namespace Go.Proofs.YtlcnjeiblniikaaGreatDoor.TopF
open Go.Vai
set_option maxRecDepth 1000000
theorem goF1 : goR P cl 100000 185 [pc 6] sF1 sF2 = true := by decide +kernel
theorem goT1 : goR P cl 100000 185 [pc 6] sT1 sT2 = true := by decide +kernel
end Go.Proofs.YtlcnjeiblniikaaGreatDoor.TopF
