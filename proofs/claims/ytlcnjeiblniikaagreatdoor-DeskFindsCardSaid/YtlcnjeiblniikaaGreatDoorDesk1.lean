/- DeskFinds: the law's pieces, and what the machine makes of them. -/
import Derived.Test.YtlcnjeiblniikaaGreatDoorChecked
import Derived.Test.YtlcnjeiblniikaaGreatDoorVaiS
import Derived.KernelRfl
namespace Go.Proofs.YtlcnjeiblniikaaGreatDoor.DeskF
open Go.Vai
set_option linter.unusedVariables false
set_option maxRecDepth 1000000
noncomputable abbrev P : Program := Tryz.prog
noncomputable def lb : Code := bodyOf P 3
noncomputable def r0 : Code := cL lb
noncomputable def r1 : Code := cL (cRs 1 lb)
noncomputable def r2 : Code := cL (cRs 2 lb)
noncomputable def r3 : Code := cL (cRs 3 lb)
noncomputable def opsD : Array Oper := cOps (cL (cRs 4 lb))
theorem shape : lb = chainC [r0, r1, r2, r3] (.seq (.region 5 opsD false) .ret) := by kernel_rfl
theorem size58 : opsD.size = 58 := by kernel_rfl
noncomputable abbrev cl : CallT := callW 12 8 (ints [0, 1, 2, 3, 4, 5, 6, 7]) (callF P glN 100000 80)
noncomputable def stA : Option St := stG P cl 100000 80 [r0, r1, r2, r3] [2, 3, 4] [.arg 0]
end Go.Proofs.YtlcnjeiblniikaaGreatDoor.DeskF
