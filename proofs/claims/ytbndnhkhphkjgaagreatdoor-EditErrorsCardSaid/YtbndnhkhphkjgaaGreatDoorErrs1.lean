/- EditErrors: the law's pieces, and what the machine makes of them. -/
import Derived.Test.YtbndnhkhphkjgaaGreatDoorChecked
import Derived.Test.YtbndnhkhphkjgaaGreatDoorShV
import Derived.Test.YtbndnhkhphkjgaaGreatDoorShD
import Derived.Test.YtbndnhkhphkjgaaGreatDoorWaiE
import Derived.Test.YtbndnhkhphkjgaaGreatDoorWaiW
import Derived.KernelRfl
namespace Go.Proofs.YtbndnhkhphkjgaaGreatDoor.ErrsF
open Go.Vai
set_option linter.unusedVariables false
set_option maxRecDepth 1000000
noncomputable abbrev P : Program := Tryz.prog
noncomputable def lb : Code := bodyOf P 3
noncomputable def r0 : Code := cL lb
noncomputable def r1 : Code := cL (cRs 1 lb)
noncomputable def r2 : Code := cL (cRs 2 lb)
noncomputable def r6 : Code := cL (cL (cRs 3 lb))
noncomputable def lp : Code := cIn (cIn (cR (cL (cRs 3 lb))))
noncomputable def c9 : Code := cL (cR (cRs 3 lb))
theorem shape : lb = spineC [r0, r1, r2, r6] (.block 2 (.loop lp)) (.seq c9 .ret) := by kernel_rfl
def hk0 : HookT := hk2 (hkF 264 validA) (hkF 46 decA)
noncomputable abbrev cl0 : CallT := callF P glN 100000 hk0 80
/-- the text that is too deep: it may stand as a text -/
def en0 : EntI := ⟨List.replicate 64 (.int .u8 91) ++ [.int .u8 49] ++ List.replicate 64 (.int .u8 93), [], [.int .i64 0, .int .i64 0]⟩
def hk : HookT := hk2 (hk2 hk0 (hkF 19 (tabI [en0]))) (hkF 9 (winF [(0, 99, ints (List.range 99))]))
noncomputable abbrev cl : CallT := callF P glN 100000 hk 400
noncomputable def stA : Option St := stG P cl 100000 92 [r0, r1, r2, r6] [56, 57, 58] [.arg 0]
theorem and_l {a b : Bool} (h : (a && b) = true) : a = true := by cases a <;> simp_all
theorem and_r {a b : Bool} (h : (a && b) = true) : b = true := by cases a <;> simp_all
end Go.Proofs.YtbndnhkhphkjgaaGreatDoor.ErrsF
