/- FindForms: the law's pieces, and what the machine makes of them. -/
import Derived.Test.YtjfigncgpldcpaaGreatDoorChecked
import Derived.Test.YtjfigncgpldcpaaGreatDoorVai20
import Derived.KernelRfl
namespace Go.Proofs.YtjfigncgpldcpaaGreatDoor.FF
open Go.Vai
set_option linter.unusedVariables false
set_option linter.unusedSimpArgs false
set_option maxRecDepth 1000000
abbrev gl : Nat → Option AV := fun _ => none
noncomputable abbrev P : Program := Tryz.prog
noncomputable def lb : Code := bodyOf P 3
noncomputable def r0 : Code := cL lb
noncomputable def r1 : Code := cL (cR lb)
noncomputable def r2 : Code := cL (cR (cR lb))
noncomputable def x3 : Code := cL (cR (cR (cR lb)))
noncomputable def c5 : Code := cR (cR (cR (cR lb)))
noncomputable def r3 : Code := cL x3
noncomputable def lp : Code := cIn (cIn (cR x3))
noncomputable def r4 : Code := cL lp
noncomputable def c4 : Code := cR lp
noncomputable def ops4 : Array Oper := cOps r4
noncomputable def pre : Code := .seq r0 (.seq r1 (.seq r2 r3))
theorem shape : lb = .seq r0 (.seq r1 (.seq r2 (.seq (.seq r3 (.block 0 (.loop (.seq (.region 4 ops4 false) c4)))) c5))) := by kernel_rfl
/-- the machine's calls: Within is told for all eight -/
def eight : AV := .vec [.int .i64 0, .int .i64 1, .int .i64 2, .int .i64 3, .int .i64 4, .int .i64 5, .int .i64 6, .int .i64 7]
def withinA (args : List AV) (h : Heap) : Option (AV × Heap) :=
  match args with
  | [.arg 0, .int .i64 (.ofNat m)] => cond (Nat.beq m 8) (some (eight, h)) none
  | _ => none
def callW (fW : Nat) (call : CallT) : CallT := fun f args h => cond (Nat.beq f fW) (withinA args h) (call f args h)
noncomputable abbrev cl : CallT := callW 4 (callF P gl 100000 60)
def dead : List Nat := [0, 13, 5, 6, 7, 8] ++ (List.range 19).map (· + 27)
noncomputable def stA : Option St :=
  bnd (argsF 0 [.arg 0] .nil) fun fr => bnd ((codeB P gl 100000 66 pre).f cl fr noHeap) fun r => match r with
    | (.normal, s) => bnd (anyFr dead s.fr) fun fr => some ⟨fr, s.h⟩
    | _ => none
def itOf (fr : Fr) : Option Nat := match fr.get 26 with | some (.ptr (some ⟨b, 0, 0, _⟩)) => some b | _ => none
noncomputable def q4 : Code := cIn (cR c4)
noncomputable def ops5 : Array Oper := cOps (cL q4)
noncomputable def rest : Code := cR q4
theorem shape4 : c4 = .seq (.cond (.tmp 28) .skip (.exit 0)) (.block 1 (.seq (.region 5 ops5 false) rest)) := by kernel_rfl
/-- one round -/
noncomputable def roundB (st : St) (ib mb n j : Nat) (e : AV × AV) : Bool :=
  match putA 66 st.fr (some 27) (.tup [.bool true, e.1, e.2]) with
  | none => false
  | some fr1 => (match st.h.objs.set ib (.mapit mb n (some j)) with
    | none => false
    | some os1 => (match opsP P gl 66 { st.h with objs := os1 } (ops4.toList.drop 1) fr1 with
      | none => false
      | some fr2 => (match fr2.get 28 with
        | some (.bool true) => (match opsP P gl 66 { st.h with objs := os1 } ops5.toList fr2 with
          | none => false
          | some fr3 => (match (codeB P gl 100000 66 rest).f cl fr3 st.h with
            | some (.normal, s2) => backHB ib st.h s2.h && backFB 66 st.fr s2.fr
            | _ => false))
        | _ => false)))
noncomputable def someR (o : Option St) (lo hi : Nat) : Bool :=
  match o with
  | none => false
  | some st => (match itOf st.fr with
    | none => false
    | some ib => (match st.h.objs.get ib with
      | some (.mapit mb n none) => (match st.h.objs.get mb with
        | some (.map es) => Nat.beq es.length n && ((es.zipIdx.drop lo).take (hi - lo)).all fun z => roundB st ib mb n z.2 z.1
        | _ => false)
      | _ => false))
noncomputable def someRounds (lo hi : Nat) : Bool := someR stA lo hi
def countR (o : Option St) : Bool :=
  match o with
  | none => false
  | some st => (match itOf st.fr with
    | none => false
    | some ib => (match st.h.objs.get ib with
      | some (.mapit _ n none) => Nat.beq n 29
      | _ => false))
noncomputable def countB : Bool := countR stA
theorem count29 : countB = true := by decide +kernel
end Go.Proofs.YtjfigncgpldcpaaGreatDoor.FF
