/- ChangeKeys: the law's pieces, and what the machine makes of them. -/
import Derived.Test.YtpcfbhjkoghepaaChecked
import Derived.Test.YtpcfbhjkoghepaaVaiL
import Derived.KernelRfl
namespace Go.Proofs.Ytpcfbhjkoghepaa.Keys
open Go.Vai
set_option linter.unusedVariables false
set_option maxRecDepth 1000000
noncomputable abbrev P : Program := Try.prog
noncomputable def lb : Code := bodyOf P 3
noncomputable def r0 : Code := cL lb
noncomputable def r1 : Code := cL (cRs 1 lb)
noncomputable def r2 : Code := cL (cRs 2 lb)
noncomputable def r3 : Code := cL (cRs 3 lb)
noncomputable def x4 : Code := cL (cRs 4 lb)
noncomputable def c5 : Code := cR (cRs 4 lb)
noncomputable def r4 : Code := cL x4
noncomputable def lp : Code := cIn (cIn (cR x4))
noncomputable def ops4 : Array Oper := cOps (cL lp)
noncomputable def c4 : Code := cR lp
noncomputable def q4 : Code := cIn (cR c4)
noncomputable def ops5 : Array Oper := cOps (cL q4)
noncomputable def rest : Code := cR q4
noncomputable def rs : List Code := [r0, r1, r2, r3, r4]
noncomputable def dead : List Nat := 3 :: ((List.range 14).map (· + 20) ++ dsts lp)
theorem shape : lb = spineC [r0, r1, r2, r3, r4] (.block 0 (.loop (.seq (.region 5 ops4 false) c4))) c5 := by kernel_rfl
theorem shape4 : c4 = .seq (.cond (.tmp 38) .skip (.exit 0)) (.block 1 (.seq (.region 6 ops5 false) rest)) := by kernel_rfl
noncomputable abbrev clA : CallT := callW 6 9 (ints [0, 1, 2, 3, 4, 5, 6, 7]) (callF P glN 100000 60)
noncomputable abbrev clB : CallT := callW 6 9 (ints [8, 8, 8, 8, 8, 8, 8, 8]) (callF P glN 100000 60)
noncomputable def stA : Option St := stOf P clA 100000 185 rs dead [.arg 0]
noncomputable def stB : Option St := stOf P clB 100000 185 rs dead [.arg 0]
theorem countA : countR 36 5 stA = true := by decide +kernel
theorem countB : countR 36 5 stB = true := by decide +kernel
end Go.Proofs.Ytpcfbhjkoghepaa.Keys
