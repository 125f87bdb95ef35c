/- EditSets: the law's pieces, and what the machine makes of them. -/
import Derived.Test.YtbndnhkhphkjgaaGreatDoorChecked
import Derived.Test.YtbndnhkhphkjgaaGreatDoorShJ
import Derived.Test.YtbndnhkhphkjgaaGreatDoorVaiH
import Derived.KernelRfl
namespace Go.Proofs.YtbndnhkhphkjgaaGreatDoor.SetsF
open Go.Vai
set_option linter.unusedVariables false
set_option maxRecDepth 1000000
noncomputable abbrev P : Program := Tryz.prog
noncomputable def lb : Code := bodyOf P 4
noncomputable def r0 : Code := cL lb
noncomputable def r1 : Code := cL (cRs 1 lb)
noncomputable def r2 : Code := cL (cL (cRs 2 lb))
noncomputable def lp : Code := cIn (cIn (cR (cL (cRs 2 lb))))
noncomputable def c9 : Code := cL (cR (cRs 2 lb))
theorem shape : lb = spineC [r0, r1, r2] (.block 0 (.loop lp)) (.seq c9 .ret) := by kernel_rfl
def hk : HookT := hkF 238 joinA
noncomputable abbrev cl : CallT := callW 9 8 (ints [0, 1, 2, 3, 4, 5, 6, 7]) (callF P glN 100000 hk 80)
noncomputable def stA : Option St := stG P cl 100000 138 [r0, r1, r2] [112, 113, 114] [.arg 0]
theorem and_l {a b : Bool} (h : (a && b) = true) : a = true := by cases a <;> simp_all
theorem and_r {a b : Bool} (h : (a && b) = true) : b = true := by cases a <;> simp_all
end Go.Proofs.YtbndnhkhphkjgaaGreatDoor.SetsF
