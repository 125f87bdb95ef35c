/- EditInserts: the law's pieces, and what the machine makes of them. -/
import Derived.Test.YtbndnhkhphkjgaaGreatDoorChecked
import Derived.Test.YtbndnhkhphkjgaaGreatDoorShR
import Derived.Test.YtbndnhkhphkjgaaGreatDoorXaiW
import Derived.Test.YtbndnhkhphkjgaaGreatDoorXai181
import Derived.Test.YtbndnhkhphkjgaaGreatDoorXai182
import Derived.Test.YtbndnhkhphkjgaaGreatDoorPut
import Derived.KernelRfl
namespace Go.Proofs.YtbndnhkhphkjgaaGreatDoor.InssF
open Go.Vai
set_option linter.unusedVariables false
set_option maxRecDepth 1000000
noncomputable abbrev P : Program := Tryz.prog
noncomputable def lb : Code := bodyOf P 5
noncomputable def r0 : Code := cL lb
noncomputable def r1 : Code := cL (cRs 1 lb)
noncomputable def r2 : Code := cL (cL (cRs 2 lb))
noncomputable def lp : Code := cIn (cIn (cR (cL (cRs 2 lb))))
noncomputable def r9 : Code := cL (cL (cRs 3 lb))
noncomputable def lp2 : Code := cIn (cIn (cR (cL (cRs 3 lb))))
noncomputable def c16 : Code := cL (cR (cRs 3 lb))
theorem shape : lb = spineC [r0, r1, r2] (.block 0 (.loop lp)) (spineC [r9] (.block 2 (.loop lp2)) (.seq c16 .ret)) := by kernel_rfl
/-- the texts that are put into double quotes -/
def txts : List (List UInt8) := [[49], [116, 114, 117, 101], [97, 58, 32, 98]]
def runes : List Nat := [32, 49, 58, 97, 98, 101, 114, 116, 117]
def hkN : HookT := fun _ _ _ => none
noncomputable abbrev clN : CallT := callF P glN 100000 hkN 80
def hk : HookT := hk2 (hk2 (hk2 (hkF 181 (insA 1)) (hkF 182 (insA 10))) (hk2 (hkF 115 repeatA) (hkF 210 (dputA txts)))) (hkF 9 (winF [(0, 8, ints (List.range 8))]))
noncomputable abbrev cl : CallT := callF P glN 100000 hk 80
noncomputable def stA : Option St := stG P cl 100000 130 [r0, r1, r2] [3, 67, 68, 69] [.arg 0]
noncomputable def stB : Option St := midG P cl 100000 130 lp 0 [r9] [104, 105, 106] stA [(69, .int .i64 17)]
theorem and_l {a b : Bool} (h : (a && b) = true) : a = true := by cases a <;> simp_all
theorem and_r {a b : Bool} (h : (a && b) = true) : b = true := by cases a <;> simp_all
theorem plainP : Plain P := by
  refine ⟨fun f fn hf => ?_, by kernel_rfl⟩
  have h : (P.funcs.toList.all fun fn => !(fn.name == "runtime.NumGoroutine")) = true := by kernel_rfl
  have := List.all_eq_true.1 h fn (by simpa using Array.mem_of_getElem? hf)
  simpa using this
end Go.Proofs.YtbndnhkhphkjgaaGreatDoor.InssF
