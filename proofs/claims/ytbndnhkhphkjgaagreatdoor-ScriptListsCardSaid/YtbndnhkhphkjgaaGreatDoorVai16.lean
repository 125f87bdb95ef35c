/- The fast machine: code and calls. -/
import Derived.Test.YtbndnhkhphkjgaaGreatDoorVai15
namespace Go.Vai
set_option linter.unusedVariables false
set_option linter.unusedSimpArgs false
set_option linter.unusedSectionVars false
variable [Lane]
abbrev CallT := Nat → List AV → Heap → Option (AV × Heap)
section
variable (P : Program) (glob : Nat → Option AV) (L N : Nat)
def putF (dst : Option Tmp) : Box (AV → Fr → Option Fr) :=
  match dst with
  | none => ⟨fun _ fr => some fr⟩
  | some d => cond (Nat.blt d N) (cond (Nat.blt d 1099511627776) ⟨fun v fr => some ((Tr.putB 44 d).f v fr)⟩ ⟨fun _ _ => none⟩) ⟨fun _ _ => none⟩
theorem putF_eq (dst : Option Tmp) (v : AV) (fr : Fr) : (putF N dst).f v fr = putA N fr dst v := by
  unfold putF putA
  cases dst with
  | none => rfl
  | some d =>
    simp only [Tr.set, blt_dec]
    by_cases q : d < N
    · rw [decide_eq_true q, if_pos q, cond_true]
      by_cases k : d < 1099511627776
      · rw [decide_eq_true k]; rfl
      · rw [decide_eq_false k]; rfl
    · rw [decide_eq_false q, if_neg q]; rfl
def afterB (pb : Box (AV → Fr → Option Fr)) (call : CallT) (fr : Fr) (h : Heap) (r : ANext) : Option St :=
  match r with
  | .val v h' => bnd (pb.f v fr) fun fr' => some ⟨fr', h'⟩
  | .skip h' => bnd (pb.f .u fr) fun fr' => some ⟨fr', h'⟩
  | .enter f args => bnd (call f args h) fun r => match r with | (v, h') => bnd (pb.f v fr) fun fr' => some ⟨fr', h'⟩
theorem afterB_eq (dst : Option Tmp) (call : CallT) (fr : Fr) (h : Heap) (r : ANext) : afterB (putF N dst) call fr h r = afterA call N fr h dst r := by
  unfold afterB afterA
  cases r with
  | val v h' => simp only [bnd_eq, putF_eq]; cases putA N fr dst v <;> rfl
  | skip h' => simp only [bnd_eq, putF_eq]; cases putA N fr dst .u <;> rfl
  | enter f args =>
    simp only [bnd_eq, putF_eq]
    cases call f args h with
    | none => rfl
    | some r => obtain ⟨v, h'⟩ := r; simp only [Option.bind_some]; cases putA N fr dst v <;> rfl
def dstB (ops : Array Oper) (j : Nat) : Box (Fr → Option AV) :=
  match (ops[j]?).bind (·.dst) with
  | some t => ⟨(Tr.getB 44 t).f⟩
  | none => ⟨fun _ => none⟩
def stepB (ops : Array Oper) (o : Oper) : Box (CallT → Fr → Heap → Option St) :=
  match o.guard with
  | none => ⟨fun call fr h => bnd ((opB P glob o).f fr h) fun r => afterB (putF N o.dst) call fr h r⟩
  | some g => (match g with | (j, want) => ⟨fun call fr h => 
      (match (match (dstB ops j).f fr with
      | some v => (match v with | .bool b => some (cond want b (cond b false true)) | .any => none | .vec _ => none | _ => some false)
      | none => some false) with
      | some c => cond c (bnd ((opB P glob o).f fr h) fun r => afterB (putF N o.dst) call fr h r) (bnd ((putF N o.dst).f .u fr) fun fr' => some ⟨fr', h⟩)
      | none => none)⟩)
theorem stepB_eq (ops : Array Oper) (o : Oper) (call : CallT) (fr : Fr) (h : Heap) : (stepB P glob N ops o).f call fr h = stepA P glob call N ops ⟨fr, h⟩ o := by
  have e1 : (bnd ((opB P glob o).f fr h) fun r => afterB (putF N o.dst) call fr h r) = (aop P (evalO glob fr) h o).bind (afterA call N fr h o.dst) := by
    rw [bnd_eq, opB_eq]; congr 1; funext r; exact afterB_eq N o.dst call fr h r
  have e2 : (bnd ((putF N o.dst).f .u fr) fun fr' => some (⟨fr', h⟩ : St)) = (putA N fr o.dst .u).map (mkSt h) := by
    rw [bnd_eq, putF_eq]; cases putA N fr o.dst .u <;> rfl
  unfold stepB stepA wantA guardLive
  cases o.guard with
  | none => exact e1
  | some g =>
    obtain ⟨j, want⟩ := g
    simp only [e1, e2]
    unfold dstB yieldA
    cases (ops[j]?).bind (·.dst) with
    | none => rfl
    | some t =>
      simp only [Option.bind_some]
      have hb : (Tr.getB 44 t).f fr = fr.get t := rfl
      simp only [hb]
      cases fr.get t with
      | none => rfl
      | some v =>
        cases v <;> try rfl
        rename_i b
        cases b <;> cases want <;> rfl
def opsB (ops : Array Oper) : List Oper → Box (CallT → Fr → Heap → Option St)
  | [] => ⟨fun _ fr h => some ⟨fr, h⟩⟩
  | o :: r => ⟨fun call fr h => bnd ((stepB P glob N ops o).f call fr h) fun st => match st with | ⟨fr, h⟩ => (opsB ops r).f call fr h⟩
theorem opsB_eq (ops : Array Oper) (call : CallT) : ∀ (l : List Oper) (fr : Fr) (h : Heap), (opsB P glob N ops l).f call fr h = opsA P glob call N ops l ⟨fr, h⟩
  | [], fr, h => rfl
  | o :: r, fr, h => by
    simp only [opsB, opsA, bnd_eq, stepB_eq]
    cases stepA P glob call N ops ⟨fr, h⟩ o with
    | none => rfl
    | some st => exact opsB_eq ops call r st.fr st.h
theorem mapO_congr {α β : Type} {f g : α → Option β} : ∀ {l : List α}, (∀ x ∈ l, f x = g x) → mapO f l = mapO g l
  | [], _ => rfl
  | a :: l, k => by simp only [mapO]; rw [k a (by simp), mapO_congr fun x hx => k x (by simp [hx])]
theorem aop0_congr {ρ ρ' : Rho} {h : Heap} {o : Oper} (k : ∀ x ∈ o.op.operands, ρ x = ρ' x) : aop0 P ρ h o = aop0 P ρ' h o := by
  have optc : ∀ x : Option Operand, (∀ y, x = some y → ρ y = ρ' y) → optO ρ x = optO ρ' x := by
    intro x q
    cases x with
    | none => rfl
    | some y => simp only [optO, q y rfl]
  have parts : ∀ ps : Array (Nat × Operand), (∀ x ∈ ps.map (·.2), ρ x = ρ' x) → partsA ρ ps = partsA ρ' ps := by
    intro ps q
    unfold partsA
    refine mapO_congr fun p hp => ?_
    rw [q p.2 (Array.mem_map.2 ⟨p, by simpa using hp, rfl⟩)]
  unfold aop0 opA
  cases ho : o.op <;> simp only [ho, Op.operands] at k ⊢ <;> try rfl
  case build t ps => simp only [oBuild, parts ps (fun x hx => k x (by simpa using hx))]
  case buildSlice t n ps => simp only [oBuildSlice, parts ps (fun x hx => k x (by simpa using hx))]
  case makeFunc fn first caps =>
    unfold oMakeFunc
    rw [mapO_congr (f := ρ) (g := ρ') fun x hx => k x (by simp at hx ⊢; exact .inr hx)]
  case pick c a b =>
    have e : pickV ρ h a b = pickV ρ' h a b := by
      funext t
      unfold pickV
      cases t <;> try rfl
      rename_i t
      cases t <;> simp only [if_true, Bool.false_eq_true, if_false, k a (by simp), k b (by simp)]
    simp only [oPick, e, k c (by simp)]
  case slice t x lo hi mx =>
    unfold oSlice
    rw [k x (by simp), optc lo (fun y q => k y (by simp [q])), optc hi (fun y q => k y (by simp [q]))]
  case call c =>
    unfold oCall
    rw [mapO_congr (f := ρ) (g := ρ') fun x hx => k x (by simp [Call.operands]; first | exact .inl (by simpa using hx) | exact .inr (by simpa using hx))]
    cases hc : c.callee with
    | value x => simp only [k x (by simp [Call.operands, hc])]
    | builtin b => rfl
    | invoke r m => rfl
  all_goals first
    | (simp only [oMove, oAlloc, oBox, oLoad, oNilCheck, oUn, oConvert, oFieldAddr, oField, oRange, oNext, oExtract, k _ (by simp : _ ∈ #[_])]; done)
    | (simp_all [oMove, oAlloc, oBox, oLoad, oStore, oNilCheck, oBin, oUn, oConvert, oFieldAddr, oField, oIndexAddr, oIndex, oRange, oNext, oExtract, oMakeSlice, oLookup, oMapUpdate, oEntry]; done)
theorem aop_congr {ρ ρ' : Rho} {h : Heap} {o : Oper} (k : ∀ x ∈ o.op.operands, ρ x = ρ' x) : aop P ρ h o = aop P ρ' h o := by
  have e : laneV P ρ h o = laneV P ρ' h o := by
    funext j
    unfold laneV
    rw [aop0_congr P (ρ := laneR j ρ) (ρ' := laneR j ρ') fun x hx => by unfold laneR; rw [k x hx]]
  have eX : aopX P ρ h o = aopX P ρ' h o := by
    have optc : ∀ x : Option Operand, (∀ y, x = some y → ρ y = ρ' y) → optO ρ x = optO ρ' x := by
      intro x q
      cases x with
      | none => rfl
      | some y => simp only [optO, q y rfl]
    unfold aopX
    cases ho : o.op <;> simp only [ho, Op.operands] at k ⊢ <;> try rfl
    case binOp op t x y u => simp only [oEqS, k x (by simp), k y (by simp)]
    case slice t x lo hi mx =>
      unfold oSlice3
      cases mx with
      | none => rfl
      | some m =>
        cases hi with
        | none => rfl
        | some hi =>
          simp only [k x (by simp), optc lo (fun y q => k y (by simp [q])), k hi (by simp), k m (by simp)]
    case mapEntry t m k' => simp only [oMapEntry, k m (by simp), k k' (by simp)]
    case entryStore t m s v => simp only [oEntryStore, k m (by simp), k s (by simp), k v (by simp)]
  unfold aop aopY lanesA
  rw [e, eX, aop0_congr P k]
theorem evalR_eq (ops : Array Oper) (o : Oper) (fr : Fr) (h : Heap) : aop P (evalR glob fr (o.looksAt ops)) h o = aop P (evalO glob fr) h o := by
  refine aop_congr P fun x hx => ?_
  cases x with
  | tmp t =>
    have : (o.looksAt ops).contains t = true := by
      rw [List.contains_iff_mem]
      exact List.mem_append_left _ (List.mem_filterMap.2 ⟨.tmp t, by simpa using hx, rfl⟩)
    simp only [evalR, evalO, this, if_true]
  | const v => rfl
  | global g => rfl
  | func f => rfl
theorem stepD_eq (call : CallT) (ops : Array Oper) (st : St) (o : Oper) : stepD P glob call N ops st o = stepA P glob call N ops st o := by
  unfold stepD stepA
  rw [evalR_eq]
def statesB (ops : Array Oper) : List Oper → Box (CallT → Fr → Heap → Option (List St))
  | [] => ⟨fun _ fr h => some [⟨fr, h⟩]⟩
  | o :: r => ⟨fun call fr h => bnd ((stepB P glob N ops o).f call fr h) fun st => match st with | ⟨fr', h'⟩ => bnd ((statesB ops r).f call fr' h') fun l => some (⟨fr, h⟩ :: l)⟩
theorem statesB_eq (ops : Array Oper) (call : CallT) : ∀ (l : List Oper) (fr : Fr) (h : Heap), (statesB P glob N ops l).f call fr h = statesA P glob call N ops l ⟨fr, h⟩
  | [], fr, h => rfl
  | o :: r, fr, h => by
    simp only [statesB, statesA, bnd_eq, stepB_eq, stepD_eq]
    cases stepA P glob call N ops ⟨fr, h⟩ o with
    | none => rfl
    | some st =>
      simp only [Option.bind_some]
      rw [statesB_eq ops call r st.fr st.h]
      cases statesA P glob call N ops r ⟨st.fr, st.h⟩ <;> rfl
theorem states_last (ops : Array Oper) (call : CallT) : ∀ (l : List Oper) (st : St), (statesA P glob call N ops l st).bind lastO = opsA P glob call N ops l st
  | [], st => rfl
  | o :: r, st => by
    simp only [statesA, opsA, stepD_eq]
    cases h1 : stepA P glob call N ops st o with
    | none => rfl
    | some s1 =>
      simp only [Option.bind_some]
      rw [← states_last ops call r s1]
      cases h2 : statesA P glob call N ops r s1 with
      | none => rfl
      | some l =>
        cases l with
        | nil =>
          exfalso
          cases r with
          | nil => cases h2
          | cons o r =>
            simp only [statesA, Option.bind_eq_some_iff, Option.map_eq_some_iff] at h2
            obtain ⟨_, _, _, _, q⟩ := h2
            cases q
        | cons x l => rfl
def anyB (ops : Array Oper) : Box (CallT → Fr → Heap → Option St) :=
  cond (orderly P ops) (match looks P ops.toList with
    | [] => opsB P glob N ops ops.toList
    | z :: zs => ⟨fun call fr h => bnd ((statesB P glob N ops ops.toList).f call fr h) fun sts => cond ((z :: zs).all (steady1 P glob ops sts)) (lastO sts) none⟩) ⟨fun _ _ _ => none⟩
theorem anyB_eq (ops : Array Oper) (call : CallT) (fr : Fr) (h : Heap) : (anyB P glob N ops).f call fr h = anyA P glob call N ops ⟨fr, h⟩ := by
  unfold anyB anyA
  cases orderly P ops with
  | false => rfl
  | true =>
    simp only [cond_true]
    cases looks P ops.toList with
    | nil =>
      simp only [List.all_nil, cond_true, opsB_eq]
      exact (states_last P glob N ops call ops.toList ⟨fr, h⟩).symm
    | cons z zs => simp only [bnd_eq, statesB_eq]
def iterB (body : Fr → Heap → Option (AEx × St)) : Nat → Fr → Heap → Option (AEx × St)
  | 0, _, _ => none
  | n + 1, fr, h => bnd (body fr h) fun r => match r with
    | (x, st) => match x with
      | .normal => (match st with | ⟨fr, h⟩ => iterB body n fr h)
      | .exit id => some (.exit id, st)
      | .ret => some (.ret, st)
theorem iterB_eq {body : Fr → Heap → Option (AEx × St)} {body' : St → Option (AEx × St)} (e : ∀ fr h, body fr h = body' ⟨fr, h⟩) : ∀ (n : Nat) (fr : Fr) (h : Heap), iterB body n fr h = iterA body' n ⟨fr, h⟩
  | 0, _, _ => rfl
  | n + 1, fr, h => by
    simp only [iterB, iterA, bnd_eq, e]
    cases body' ⟨fr, h⟩ with
    | none => rfl
    | some r =>
      obtain ⟨x, st⟩ := r
      cases x <;> try rfl
      exact iterB_eq e n st.fr st.h
def codeB : Code → Box (CallT → Fr → Heap → Option (AEx × St))
  | .skip => ⟨fun _ fr h => some (.normal, ⟨fr, h⟩)⟩
  | .label _ => ⟨fun _ fr h => some (.normal, ⟨fr, h⟩)⟩
  | .region _ ops d => cond d ⟨fun call fr h => bnd ((anyB P glob N ops).f call fr h) fun st => some (.normal, st)⟩ ⟨fun call fr h => bnd ((opsB P glob N ops ops.toList).f call fr h) fun st => some (.normal, st)⟩
  | .seq a b => ⟨fun call fr h => bnd ((codeB a).f call fr h) fun r => match r with
    | (x, st) => match x with
      | .normal => (match st with | ⟨fr, h⟩ => (codeB b).f call fr h)
      | .exit id => some (.exit id, st)
      | .ret => some (.ret, st)⟩
  | .cond c a b => ⟨fun call fr h => bnd ((opdB glob c).f fr) fun v => match v with
      | .bool t => cond t ((codeB a).f call fr h) ((codeB b).f call fr h)
      | _ => none⟩
  | .block id b => ⟨fun call fr h => bnd ((codeB b).f call fr h) fun r => match r with
    | (x, st) => match x with
      | .exit id' => cond (Nat.beq id' id) (some (.normal, st)) (some (.exit id', st))
      | .normal => some (.normal, st)
      | .ret => some (.ret, st)⟩
  | .loop b => ⟨fun call fr h => iterB ((codeB b).f call) L fr h⟩
  | .exit id => ⟨fun _ fr h => some (.exit id, ⟨fr, h⟩)⟩
  | .ret => ⟨fun _ fr h => some (.ret, ⟨fr, h⟩)⟩
  | _ => ⟨fun _ _ _ => none⟩
theorem codeB_eq (call : CallT) (c : Code) : ∀ (fr : Fr) (h : Heap), (codeB P glob L N c).f call fr h = codeA P glob call L N c ⟨fr, h⟩ := by
  induction c with
  | region id ops d =>
    intro fr h
    cases d with
    | true =>
      simp only [codeB, codeA, cond_true, if_true, bnd_eq, anyB_eq]
      cases anyA P glob call N ops ⟨fr, h⟩ <;> rfl
    | false =>
      simp only [codeB, codeA, cond_false, Bool.false_eq_true, if_false, bnd_eq, opsB_eq]
      cases opsA P glob call N ops ops.toList ⟨fr, h⟩ <;> rfl
  | seq a b iha ihb =>
    intro fr h
    simp only [codeB, codeA, bnd_eq, iha]
    cases codeA P glob call L N a ⟨fr, h⟩ with
    | none => rfl
    | some r =>
      obtain ⟨x, st⟩ := r
      cases x <;> try rfl
      exact ihb st.fr st.h
  | cond c a b iha ihb =>
    intro fr h
    simp only [codeB, codeA, bnd_eq, opdB_eq, iha, ihb]
    cases evalO glob fr c with
    | none => rfl
    | some v =>
      simp only [Option.bind_some]
      cases v <;> try rfl
      rename_i t
      cases t <;> rfl
  | block id b ih =>
    intro fr h
    simp only [codeB, codeA, bnd_eq, ih]
    cases codeA P glob call L N b ⟨fr, h⟩ with
    | none => rfl
    | some r =>
      obtain ⟨x, st⟩ := r
      cases x <;> try rfl
      rename_i id'
      simp only [Option.bind_some, Option.map_some, beq_dec, cond_dec]
      by_cases q : id' = id <;> simp [q]
  | loop b ih =>
    intro fr h
    exact iterB_eq (fun fr h => ih fr h) L fr h
  | _ => intros; rfl
def argsF : Nat → List AV → Fr → Option Fr
  | _, [], fr => some fr
  | i, v :: r, fr => cond (Nat.blt i 1099511627776) (argsF (Nat.succ i) r ((Tr.putB 44 i).f v fr)) none
theorem argsF_eq : ∀ (l : List AV) (i : Nat) (fr : Fr), argsF i l fr = argsFr i l fr
  | [], i, fr => rfl
  | v :: r, i, fr => by
    simp only [argsF, argsFr, Tr.set]
    cases Nat.blt i 1099511627776 with
    | false => rfl
    | true => exact argsF_eq r (i + 1) _
def resB (r : ResultVar) : Box (Fr → Heap → Option AV) :=
  match r with
  | .tmp t => ⟨fun fr _ => bnd ((Tr.getB 44 t).f fr) liveV⟩
  | .cell a t => ⟨fun fr h => bnd ((Tr.getB 44 a).f fr) fun v => bnd (liveV v) fun p => (loadB P t).f h p⟩
theorem resB_eq (r : ResultVar) (fr : Fr) (h : Heap) : (resB P r).f fr h = resA P h fr r := by
  cases r with
  | tmp t => simp only [resB, resA, bnd_eq]; rfl
  | cell a t =>
    simp only [resB, resA, bnd_eq, loadB_eq]
    show (fr.get a).bind _ = ((fr.get a).bind _).bind _
    cases fr.get a <;> rfl
def ressB : List ResultVar → Box (Fr → Heap → Option (List AV))
  | [] => ⟨fun _ _ => some []⟩
  | r :: l => ⟨fun fr h => bnd ((resB P r).f fr h) fun v => bnd ((ressB l).f fr h) fun vs => some (v :: vs)⟩
theorem ressB_eq (fr : Fr) (h : Heap) : ∀ l : List ResultVar, (ressB P l).f fr h = mapO (resA P h fr) l
  | [] => rfl
  | r :: l => by simp only [ressB, mapO, bnd_eq, resB_eq, ressB_eq fr h l]
def fnB (f : Nat) : Box (CallT → List AV → Heap → Option (AV × Heap)) :=
  match P.funcs[f]? with
  | none => ⟨fun _ _ _ => none⟩
  | some fn => (match fn.body with
    | none => ⟨fun _ args h => extL fn args h⟩
    | some c => ⟨fun call args h => bnd (argsF 0 args .nil) fun fr => cond (Nat.ble args.length fn.ntmps) (bnd ((cond (hasRange c) (⟨fun call fr h => codeD P glob call L fn.ntmps c ⟨fr, h⟩⟩ : Box (CallT → Fr → Heap → Option (AEx × St))) (codeB P glob L fn.ntmps c)).f call fr h) fun r => match r with
      | (x, st) => match x with
        | .exit _ => none
        | .normal => (match st with | ⟨fr, h⟩ => bnd ((ressB P fn.results.toList).f fr h) fun vs => some (tupA vs, h))
        | .ret => (match st with | ⟨fr, h⟩ => bnd ((ressB P fn.results.toList).f fr h) fun vs => some (tupA vs, h))) none⟩)
theorem fnB_eq (f : Nat) (call : CallT) (args : List AV) (h : Heap) : (fnB P glob L f).f call args h = funcA P glob call L f args h := by
  unfold fnB funcA
  cases P.funcs[f]? with
  | none => rfl
  | some fn =>
    dsimp only [Option.bind_some]
    cases fn.body with
    | none => rfl
    | some c =>
      dsimp only
      simp only [bnd_eq, argsF_eq]
      congr 1
      funext fr
      have hcd : (cond (hasRange c) (⟨fun call fr h => codeD P glob call L fn.ntmps c ⟨fr, h⟩⟩ : Box (CallT → Fr → Heap → Option (AEx × St))) (codeB P glob L fn.ntmps c)).f call fr h = bif hasRange c then codeD P glob call L fn.ntmps c ⟨fr, h⟩ else codeA P glob call L fn.ntmps c ⟨fr, h⟩ := by
        cases hasRange c <;> simp only [cond_true, cond_false, codeB_eq]
      simp only [ble_dec, cond_dec, hcd]
      by_cases q : args.length ≤ fn.ntmps
      · rw [if_pos q, if_pos q]
        congr 1
        funext r
        obtain ⟨x, st⟩ := r
        cases x <;> try rfl
        all_goals
          simp only [ressB_eq]
          cases mapO (resA P st.h st.fr) fn.results.toList <;> rfl
      · rw [if_neg q, if_neg q]; rfl
def callF (hk : HookT) : Nat → Nat → List AV → Heap → Option (AV × Heap)
  | 0, _, _, _ => none
  | n + 1, f, args, h => orHook (hk f args h) ((fnB P glob L f).f (callF hk n) args h)
theorem callF_eq (hk : HookT) : ∀ (n f : Nat) (args : List AV) (h : Heap), callF P glob L hk n f args h = callA P glob hk L n f args h
  | 0, _, _, _ => rfl
  | n + 1, f, args, h => by
    show orHook (hk f args h) ((fnB P glob L f).f (callF P glob L hk n) args h) = orHook (hk f args h) (funcA P glob (callA P glob hk L n) L f args h)
    rw [fnB_eq, show callF P glob L hk n = callA P glob hk L n from by funext f args h; exact callF_eq hk n f args h]
end
end Go.Vai
