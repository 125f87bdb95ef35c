/- The fast machine: operations, code, calls. -/
import Derived.Test.YtbndnhkhphkjgaaGreatDoorVai14
namespace Go.Vai
set_option linter.unusedVariables false
set_option linter.unusedSimpArgs false
set_option linter.unusedSectionVars false
variable [Lane]
section
variable (P : Program) (glob : Nat → Option AV)
def noB {β : Type} : Box (Fr → Heap → Option β) := ⟨fun _ _ => none⟩

/-! operands -/
def opdB (x : Operand) : Box (Fr → Option AV) :=
  match x with
  | .tmp t => ⟨fun fr => Option.casesOn (motive := fun _ => Option AV) ((Tr.getB 44 t).f fr) (some .u) liveV⟩
  | .const v => (match ofV v with | some a => ⟨fun _ => some a⟩ | none => ⟨fun _ => none⟩)
  | .global g => (match glob g with | some a => ⟨fun _ => some a⟩ | none => ⟨fun _ => none⟩)
  | .func f => ⟨fun _ => some (.func f [])⟩
theorem opdB_eq (x : Operand) (fr : Fr) : (opdB glob x).f fr = evalO glob fr x := by
  cases x with
  | tmp t =>
    show Option.casesOn (motive := fun _ => Option AV) (fr.get t) (some .u) liveV = tmpV fr t
    unfold tmpV
    cases fr.get t <;> rfl
  | const v => simp only [opdB, evalO]; cases ofV v <;> rfl
  | global g => simp only [opdB, evalO]; cases glob g <;> rfl
  | func f => rfl
def argsB : List Operand → Box (Fr → Option (List AV))
  | [] => ⟨fun _ => some []⟩
  | x :: l => ⟨fun fr => bnd ((opdB glob x).f fr) fun v => bnd ((argsB l).f fr) fun r => some (v :: r)⟩
theorem argsB_eq (fr : Fr) : ∀ l : List Operand, (argsB glob l).f fr = mapO (evalO glob fr) l
  | [] => rfl
  | x :: l => by simp only [argsB, mapO, bnd_eq, opdB_eq, argsB_eq fr l]

/-! operations -/
def loadB (t : TypeId) : Box (Heap → AV → Option AV) :=
  match isAggT P t with
  | none => ⟨fun _ _ => none⟩
  | some true => (match sizeT P t with
    | none => ⟨fun _ _ => none⟩
    | some n => ⟨fun h p => match p with
      | .ptr q => (match q with | some a => bnd (loadNF h a 0 n) fun l => some (.agg l) | none => none)
      | _ => none⟩)
  | some false => ⟨fun h p => match p with
      | .ptr q => (match q with | some a => loadCF h a 0 | none => none)
      | _ => none⟩
theorem loadB_eq (t : TypeId) (h : Heap) (p : AV) : (loadB P t).f h p = loadV P h t p := by
  unfold loadB loadV
  have none_c : (match p with | .ptr (some a) => (none : Option AV) | _ => none) = none := by split <;> rfl
  cases hg : isAggT P t with
  | none => simp only [Option.bind_none]; exact none_c.symm
  | some g =>
    cases g with
    | true =>
      cases hs : sizeT P t with
      | none => simp only [Option.bind_some, if_true, Option.bind_none]; exact none_c.symm
      | some n =>
        cases p <;> try rfl
        rename_i q
        cases q <;> try rfl
        simp only [Option.bind_some, if_true, bnd_eq, loadNF_eq]
        rename_i a
        cases loadN h a 0 n <;> rfl
    | false =>
      cases p <;> try rfl
      rename_i q
      cases q <;> try rfl
      simp only [Option.bind_some, Bool.false_eq_true, if_false, loadCF_eq]
def storeB (t : TypeId) : Box (Heap → AV → AV → Option Heap) :=
  match sizeT P t with
  | none => ⟨fun _ _ _ => none⟩
  | some n => ⟨fun h p v => match p with
      | .ptr q => (match q with | some a => cond (Nat.beq (cellsA v).length n) (storeNF h a 0 (cellsA v)) none | none => none)
      | _ => none⟩
theorem storeB_eq (t : TypeId) (h : Heap) (p v : AV) : (storeB P t).f h p v = storeV P h t p v := by
  unfold storeB storeV
  have none_c : (match p with | .ptr (some a) => (none : Option Heap) | _ => none) = none := by split <;> rfl
  cases hs : sizeT P t with
  | none => simp only [Option.bind_none]; exact none_c.symm
  | some n =>
    cases p <;> try rfl
    rename_i q
    cases q <;> try rfl
    simp only [Option.bind_some, storeNF_eq, beq_dec, cond_dec]
def atF (a : Loc) (len n : Nat) (i : Int) : Option AV :=
  match i with
  | .ofNat m => cond (Nat.blt m len) (match a with | ⟨b, g, i, e⟩ => some (.ptr (some ⟨b, g, Nat.add i (Nat.mul m n), e⟩))) none
  | .negSucc _ => none
theorem atF_eq (a : Loc) (len n : Nat) (i : Int) : atF a len n i = atA a len n i := by
  unfold atF atA
  cases i with
  | ofNat m =>
    simp only [blt_dec, cond_dec]
    by_cases q : m < len
    · rw [if_pos q, if_pos (by simp; omega)]; rfl
    · rw [if_neg q, if_neg (by simp; omega)]
  | negSucc m => rw [if_neg (by simp)]
def indexAddrB (t : TypeId) : Box (AV → AV → Option AV) :=
  match P.underlying t with
  | some (.slice e) => (match sizeT P e with
    | some n => ⟨fun x ix => match ix with
      | .int _ i => (match x with
        | .slice a len _ sz => (match a with | some a => cond (Nat.beq n sz) (atF a len n i) none | none => none)
        | _ => none)
      | _ => none⟩
    | none => ⟨fun _ _ => none⟩)
  | some (.array len e) => (match sizeT P e with
    | some n => ⟨fun x ix => match ix with
      | .int _ i => (match x with
        | .ptr a => (match a with | some a => atF a len n i | none => none)
        | _ => none)
      | _ => none⟩
    | none => ⟨fun _ _ => none⟩)
  | _ => ⟨fun _ _ => none⟩
theorem indexAddrB_eq (t : TypeId) (x ix : AV) : (indexAddrB P t).f x ix = indexAddrA P t x ix := by
  unfold indexAddrB indexAddrA
  cases hu : P.underlying t with
  | none => cases ix <;> rfl
  | some d =>
    cases d <;> try (cases ix <;> rfl)
    · rename_i e
      dsimp only
      cases hs : sizeT P e with
      | none =>
        dsimp only [Option.bind_none]
        cases ix <;> try dsimp only
        cases x <;> try dsimp only
        rename_i a l r s
        cases a <;> rfl
      | some n =>
        cases ix <;> try dsimp only
        cases x <;> try dsimp only
        rename_i a l r s
        cases a <;> try dsimp only
        simp only [Option.bind_some, beq_dec, cond_dec, atF_eq]
    · rename_i len e
      dsimp only
      cases hs : sizeT P e with
      | none =>
        dsimp only [Option.bind_none]
        cases ix <;> try dsimp only
        cases x <;> try dsimp only
        rename_i a
        cases a <;> rfl
      | some n =>
        cases ix <;> try dsimp only
        cases x <;> try dsimp only
        rename_i a
        cases a <;> try dsimp only
        simp only [Option.bind_some, atF_eq]
def fieldAddrB (t : TypeId) (f : Nat) : Box (AV → Option AV) :=
  match P.underlying t with
  | some (.struct fs) => (match fs[f]? with
    | some fd => (match sizeT P fd.type with
      | some n => cond (Nat.beq n 0) ⟨fun _ => none⟩ ⟨fun x => match x with
        | .ptr a => (match a with | some a => (match a with | ⟨b, g, i, e⟩ => some (.ptr (some ⟨b, g, Nat.add i fd.offset, e⟩))) | none => none)
        | _ => none⟩
      | none => ⟨fun _ => none⟩)
    | none => ⟨fun _ => none⟩)
  | _ => ⟨fun _ => none⟩
theorem fieldAddrB_eq (t : TypeId) (f : Nat) (x : AV) : (fieldAddrB P t f).f x = fieldAddrA P t x f := by
  unfold fieldAddrB fieldAddrA
  cases hu : P.underlying t with
  | none => rfl
  | some d =>
    cases d <;> try rfl
    rename_i fs
    dsimp only
    cases hf : fs[f]? with
    | none =>
      dsimp only [Option.bind_none]
      cases x <;> try dsimp only
      rename_i a; cases a <;> simp [hf]
    | some fd =>
      dsimp only [Option.bind_some]
      cases hs : sizeT P fd.type with
      | none =>
        dsimp only [Option.bind_none]
        cases x <;> try dsimp only
        rename_i a; cases a <;> simp [hf, hs]
      | some n =>
        dsimp only [Option.bind_some]
        rw [beq_dec]
        by_cases q : n = 0
        · rw [decide_eq_true q, cond_true]
          cases x <;> try dsimp only
          rename_i a; cases a <;> try dsimp only
          simp [hf, hs, q]
        · rw [decide_eq_false q, cond_false]
          cases x <;> try dsimp only
          rename_i a; cases a <;> try dsimp only
          simp [hf, hs, q]
def lenB (t : TypeId) : Box (AV → Option AV) :=
  match P.underlying t with
  | some .string => ⟨fun x => match x with | .str l => some (.int .i64 (.ofNat l.length)) | _ => none⟩
  | some (.slice _) => ⟨fun x => match x with | .slice _ n _ _ => some (.int .i64 (.ofNat n)) | _ => none⟩
  | _ => ⟨fun _ => none⟩
theorem lenB_eq (t : TypeId) (x : AV) : (lenB P t).f x = lenT P t x := by
  unfold lenB lenT
  cases hu : P.underlying t with
  | none => rfl
  | some d => cases d <;> try rfl
              all_goals (cases x <;> rfl)
def nthF : List AV → Nat → Option AV
  | [], _ => none
  | v :: l, i => (match i with | 0 => some v | i + 1 => nthF l i)
theorem nthF_eq : ∀ (l : List AV) (i : Nat), nthF l i = l[i]?
  | [], i => by simp [nthF]
  | v :: l, 0 => by simp [nthF]
  | v :: l, i + 1 => by simp [nthF, nthF_eq l i]
def callB (c : Call) : Box (Fr → Heap → Option ANext) :=
  match c.callee with
  | .value x => ⟨fun fr h => bnd ((argsB glob c.args.toList).f fr) fun xs => bnd ((opdB glob x).f fr) fun f => match f with
      | .func f caps => some (.enter f (match caps with | [] => xs | v :: l => xs ++ v :: l))
      | _ => none⟩
  | .builtin b => (match b with
    | .len => (match c.argTypes[0]? with
      | some t => ⟨fun fr h => bnd ((argsB glob c.args.toList).f fr) fun xs => match xs with
        | [] => none
        | x :: l => (match l with | [] => bnd ((lenB P t).f x) fun v => some (.val v h) | _ :: _ => none)⟩
      | none => noB)
    | b => ⟨fun fr h => bnd ((argsB glob c.args.toList).f fr) fun xs => builtinA P b c.argTypes h xs⟩)
  | _ => noB
theorem pureO_eq (h : Heap) (o : Option AV) : pureO h o = bnd o fun v => some (.val v h) := by cases o <;> rfl
theorem callB_eq (c : Call) (fr : Fr) (h : Heap) : (callB P glob c).f fr h = oCall P c (evalO glob fr) h := by
  unfold callB oCall
  cases hc : c.callee <;> simp only [noB, bnd_eq, argsB_eq, opdB_eq]
  case value x =>
    cases mapO (evalO glob fr) c.args.toList with
    | none => rfl
    | some xs =>
      simp only [Option.bind_some]
      cases evalO glob fr x with
      | none => rfl
      | some f =>
        simp only [Option.bind_some, enterV]
        cases f <;> try rfl
        rename_i f caps
        cases caps <;> simp
  case builtin b =>
    cases b <;> try rfl
    cases ht : c.argTypes[0]? with
    | none =>
      cases mapO (evalO glob fr) c.args.toList with
      | none => rfl
      | some xs => simp only [Option.bind_some, builtinA, one1, ht, Option.bind_none]; split <;> rfl
    | some t =>
      simp only [bnd_eq, argsB_eq]
      cases mapO (evalO glob fr) c.args.toList with
      | none => rfl
      | some xs =>
        simp only [Option.bind_some, builtinA, one1, ht]
        match xs with
        | [] => rfl
        | [x] => simp only [lenB_eq, pureO_eq, bnd_eq]
        | _ :: _ :: _ => rfl
  all_goals (cases mapO (evalO glob fr) c.args.toList <;> rfl)
def opB0 (o : Oper) : Box (Fr → Heap → Option ANext) :=
  match o.op with
  | .move x => ⟨fun fr h => bnd ((opdB glob x).f fr) fun v => some (.val v h)⟩
  | .assign x => ⟨fun fr h => bnd ((opdB glob x).f fr) fun v => some (.val v h)⟩
  | .pick c a b => ⟨fun fr h => bnd ((opdB glob c).f fr) fun t => match t with
      | .bool t => cond t (bnd ((opdB glob a).f fr) fun v => some (.val v h)) (bnd ((opdB glob b).f fr) fun v => some (.val v h))
      | _ => none⟩
  | .load t x => ⟨fun fr h => bnd ((opdB glob x).f fr) fun p => bnd ((loadB P t).f h p) fun v => some (.val v h)⟩
  | .store t x y => ⟨fun fr h => bnd ((opdB glob x).f fr) fun p => bnd ((opdB glob y).f fr) fun v => bnd ((storeB P t).f h p v) fun h => some (.skip h)⟩
  | .binOp op t x y _ => cond (isConstO x || isConstO y)
      ⟨fun fr h => bnd ((opdB glob x).f fr) fun a => bnd ((opdB glob y).f fr) fun b => bnd ((binB P op t).f a b) fun v => some (.val v h)⟩
      ⟨fun fr h => bnd ((opdB glob x).f fr) fun a => bnd ((opdB glob y).f fr) fun b => cond (nilOk false a b) (bnd ((binB P op t).f a b) fun v => some (.val v h)) none⟩
  | .fieldAddr t x f => ⟨fun fr h => bnd ((opdB glob x).f fr) fun p => bnd ((fieldAddrB P t f).f p) fun v => some (.val v h)⟩
  | .indexAddr t x i => ⟨fun fr h => bnd ((opdB glob x).f fr) fun p => bnd ((opdB glob i).f fr) fun i => bnd ((indexAddrB P t).f p i) fun v => some (.val v h)⟩
  | .extract x i => ⟨fun fr h => bnd ((opdB glob x).f fr) fun p => match p with | .tup vs => bnd (nthF vs i) fun v => some (.val v h) | _ => none⟩
  | .call c => callB P glob c
  | _ => ⟨fun fr h => aop0 P (evalO glob fr) h o⟩
theorem opB0_eq (o : Oper) (fr : Fr) (h : Heap) : (opB0 P glob o).f fr h = aop0 P (evalO glob fr) h o := by
  unfold opB0 aop0 opA
  cases ho : o.op <;> try (simp only [aop0, opA, ho]; done)
  case move x => simp only [oMove, pureO_eq, bnd_eq, opdB_eq]
  case assign x => simp only [oMove, pureO_eq, bnd_eq, opdB_eq]
  case pick c a b =>
    simp only [oPick, pickV, pureO_eq, bnd_eq, opdB_eq]
    cases evalO glob fr c with
    | none => rfl
    | some t =>
      simp only [Option.bind_some]
      cases t <;> try rfl
      rename_i t
      cases t <;> simp only [pickV, pureO_eq, bnd_eq, cond_true, cond_false, if_true, Bool.false_eq_true, if_false]
  case load t x => simp only [oLoad, pureO_eq, bnd_eq, opdB_eq, loadB_eq]
  case store t x y =>
    simp only [oStore, bnd_eq, opdB_eq, storeB_eq]
    cases evalO glob fr x <;> try rfl
    simp only [Option.bind_some]
    cases evalO glob fr y <;> try rfl
    simp only [Option.bind_some]
    cases storeV P h t _ _ <;> rfl
  case binOp op t x y u =>
    have nt : ∀ a b, nilOk true a b = true := by intro a b; cases a <;> try rfl
                                                 cases b <;> rfl
    have mid : ∀ (c : Bool) (a b : AV), (pureO h (bif nilOk c a b then binT P op t a b else none)) = cond (nilOk c a b) ((binT P op t a b).bind fun v => some (.val v h)) none := by
      intro c a b
      cases nilOk c a b with
      | false => rfl
      | true => simp only [cond_true, pureO_eq, bnd_eq]
    cases hc : (isConstO x || isConstO y) with
    | true => simp only [oBin, cond_true, hc, nt, pureO_eq, bnd_eq, opdB_eq, binB_eq]
    | false => simp only [oBin, cond_false, hc, mid, bnd_eq, opdB_eq, binB_eq]
  case fieldAddr t x f => simp only [oFieldAddr, pureO_eq, bnd_eq, opdB_eq, fieldAddrB_eq]
  case indexAddr t x i => simp only [oIndexAddr, pureO_eq, bnd_eq, opdB_eq, indexAddrB_eq]
  case extract x i =>
    simp only [oExtract, extV, pureO_eq, bnd_eq, opdB_eq, nthF_eq]
    cases evalO glob fr x <;> try rfl
    simp only [Option.bind_some]
    rename_i v
    cases v <;> try rfl
    simp only [extV, pureO_eq, bnd_eq]
  case call c => exact callB_eq P glob c fr h
theorem orElseL_none (x : Option ANext) : orElseL x none = x := by cases x <;> rfl
def opB (o : Oper) : Box (Fr → Heap → Option ANext) :=
  cond (pureL P o || extraO o) ⟨fun fr h => match (opB0 P glob o).f fr h with | some r => some r | none => aopY P (evalO glob fr) h o⟩ (opB0 P glob o)
theorem opB_eq (o : Oper) (fr : Fr) (h : Heap) : (opB P glob o).f fr h = aop P (evalO glob fr) h o := by
  unfold opB aop
  cases hp : (pureL P o || extraO o) with
  | true =>
    rw [cond_true]
    simp only [opB0_eq]
    rfl
  | false =>
    simp only [Bool.or_eq_false_iff] at hp
    have hn : aopY P (evalO glob fr) h o = none := by
      have h1 : lanesA P (evalO glob fr) h o = none := by unfold lanesA; rw [hp.1]; rfl
      have h2 : aopX P (evalO glob fr) h o = none := by
        have := hp.2
        unfold extraO at this
        unfold aopX
        cases ho : o.op <;> simp only [ho] at this ⊢ <;> cases this
      unfold aopY
      rw [h1, h2]; rfl
    rw [cond_false, opB0_eq, hn, orElseL_none]
end
end Go.Vai
