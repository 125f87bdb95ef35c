/- TopAliases: the law's end, turned by the kernel, the flag down and up. -/
import Derived.Test.YtlcnjeiblniikaaGreatDoorTopL1
namespace Go.Proofs.YtlcnjeiblniikaaGreatDoor.TopF
open Go.Vai
set_option maxRecDepth 1000000
theorem enF : goE P cl 100000 185 re 4 sF6 = true := by decide +kernel
theorem enT : goE P cl 100000 185 re 4 sT6 = true := by decide +kernel
end Go.Proofs.YtlcnjeiblniikaaGreatDoor.TopF
