/- ChangeKeys: rounds of the law's loop, and what stands behind it, turned by the kernel. -/
import Derived.Test.YtpcfbhjkoghepaaKeys1
namespace Go.Proofs.Ytpcfbhjkoghepaa.Keys
open Go.Vai
set_option maxRecDepth 1000000
theorem roundsA : someR P clA 100000 185 36 37 38 ops4 ops5 rest stA 0 5 = true := by decide +kernel
theorem lastA : lastR P clA 100000 185 37 ops4 c4 c5 2 stA = true := by decide +kernel
theorem roundsB : someR P clB 100000 185 36 37 38 ops4 ops5 rest stB 0 5 = true := by decide +kernel
theorem lastB : lastR P clB 100000 185 37 ops4 c4 c5 2 stB = true := by decide +kernel
end Go.Proofs.Ytpcfbhjkoghepaa.Keys
