/- TopAliases: one piece of the law, turned by the kernel, the flag down and up. -/
import Derived.Test.YtlcnjeiblniikaaGreatDoorTopL1
namespace Go.Proofs.YtlcnjeiblniikaaGreatDoor.TopF
open Go.Vai
set_option maxRecDepth 1000000
theorem goF3 : goR P cl 100000 185 [pc 8] sF3 sF4 = true := by decide +kernel
theorem goT3 : goR P cl 100000 185 [pc 8] sT3 sT4 = true := by decide +kernel
end Go.Proofs.YtlcnjeiblniikaaGreatDoor.TopF
