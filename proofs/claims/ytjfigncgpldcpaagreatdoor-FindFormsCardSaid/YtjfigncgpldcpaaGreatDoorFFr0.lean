/- FindForms: rounds of the law's loop, turned by the kernel. -/
import Derived.Test.YtjfigncgpldcpaaGreatDoorFF1
namespace Go.Proofs.YtjfigncgpldcpaaGreatDoor.FF
open Go.Vai
set_option maxRecDepth 1000000
theorem rounds0 : someRounds 0 10 = true := by decide +kernel
end Go.Proofs.YtjfigncgpldcpaaGreatDoor.FF
