/- TopAliases: one piece of the law, turned by the kernel, the flag down and up. -/
import Derived.Test.YtlcnjeiblniikaaGreatDoorTopL1
namespace Go.Proofs.YtlcnjeiblniikaaGreatDoor.TopF
open Go.Vai
set_option maxRecDepth 1000000
theorem goF0 : goR P cl 100000 185 [pc 5] sF0 sF1 = true := by decide +kernel
theorem goT0 : goR P cl 100000 185 [pc 5] sT0 sT1 = true := by decide +kernel
theorem stF : goS P cl 100000 185 [pc 0, pc 1, pc 2, pc 3, pc 4] [.arg 0, .bool false] sF0 = true := by decide +kernel
theorem stT : goS P cl 100000 185 [pc 0, pc 1, pc 2, pc 3, pc 4] [.arg 0, .bool true] sT0 = true := by decide +kernel
end Go.Proofs.YtlcnjeiblniikaaGreatDoor.TopF
