/- EditErrors: the text that is too deep may stand as a text: turned by the kernel. -/
import Derived.Test.YtbndnhkhphkjgaaGreatDoorErrs1
namespace Go.Proofs.YtbndnhkhphkjgaaGreatDoor.ErrsF
open Go.Vai
set_option maxRecDepth 1000000
theorem e0 : entI cl0 19 en0 = true := by decide +kernel
end Go.Proofs.YtbndnhkhphkjgaaGreatDoor.ErrsF
