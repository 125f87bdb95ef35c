/- The abstract machine: code. -/
import Derived.Test.YtjnpggeibjbfmaaGreatDoorYaiB
import Derived.LoopN
import Derived.RangeFuncIn
import Derived.RangeFuncCalls
import Derived.RangeFuncLeaves
import Derived.RangeFuncRecord
import Derived.LoopNIn
import Derived.OrdersIn
namespace Go.Vai
set_option linter.unusedVariables false
set_option linter.unusedSimpArgs false
set_option linter.unusedSectionVars false
variable [Lane]
variable {P : Program} {base : Nat} {φ φ' φ'' : Emb} {h h' h'' : Heap} {w w' w'' : World}

/-- what a temporary is, or that it is not known -/
def VRd (φ : Emb) (w : World) (x : AV) (v : Value) : Prop := x = .any ∨ VR φ w x v
theorem VRd.step {x : AV} {v : Value} (k : VRd φ w x v) (s : Step base φ h w φ' h' w') : VRd φ' w' x v := k.imp id fun q => q.step s
theorem VRd.live {x y : AV} {v : Value} (k : VRd φ w x v) (e : liveV x = some y) : VR φ w y v := by
  unfold liveV at e
  split at e
  · cases e
  · cases e
    rcases k with rfl | k
    · rename_i q; exact absurd rfl q
    · exact k
theorem VRd.tmp {fr : Fr} {t : Nat} {v : AV} {u : Value} (k : VRd φ w ((fr.get t).getD .u) u) (e : tmpV fr t = some v) : VR φ w v u := by
  unfold tmpV at e
  cases hx : fr.get t with
  | none =>
    rw [hx] at e k
    cases e
    rcases k with k | k
    · cases k
    · exact k
  | some x =>
    rw [hx] at e k
    exact VRd.live k e
/-- the temporaries of a frame -/
structure FR (N : Nat) (φ : Emb) (w : World) (fr : Fr) (a : Act) : Prop where
  size : a.tmps.size = N
  get : ∀ t, t < N → VRd φ w ((fr.get t).getD .u) (a.tmps.getD t undef)
  out : ∀ t, N ≤ t → fr.get t = none
theorem FR.eval {N : Nat} {fr : Fr} {a : Act} (f : FR N φ w fr a) {glob : Nat → Option AV} (hg : ∀ g v, glob g = some v → VR φ w v (.pointer (some ⟨g, 0, none⟩))) (x : Operand) (v : AV) (e : evalO glob fr x = some v) : VR φ w v (a.eval x) := by
  cases x with
  | tmp t =>
    have e' : tmpV fr t = some v := e
    show VR φ w v (a.tmps.getD t undef)
    rcases Nat.lt_or_ge t N with q | q
    · exact VRd.tmp (f.get t q) e'
    · rw [Array.getD_eq_getD_getElem?, Array.getElem?_eq_none (by rw [f.size]; exact q)]
      unfold tmpV at e'
      rw [f.out t q] at e'
      cases e'
      exact .u
  | const v' => exact ofV_VR e
  | global g => exact hg g v e
  | func f =>
    simp only [evalO, Option.some.injEq] at e
    subst e
    exact .func f [] [] .nil
theorem FR.mono {N : Nat} {fr : Fr} {a : Act} (f : FR N φ w fr a) (s : Step base φ h w φ' h' w') : FR N φ' w' fr a := ⟨f.size, fun t q => (f.get t q).step s, f.out⟩
theorem FR.put {N : Nat} {fr fr' : Fr} {a : Act} (f : FR N φ w fr a) {dst : Option Tmp} {v : AV} {u : Value} (hv : VR φ w v u) (e : putA N fr dst v = some fr') : FR N φ w fr' (a.put dst u) := by
  unfold putA at e
  cases dst with
  | none => cases e; exact f
  | some d =>
    simp only at e
    split at e
    case isFalse => cases e
    rename_i hd
    have hds : d < a.tmps.size := by rw [f.size]; exact hd
    refine ⟨by simp [Act.put, f.size], ?_, ?_⟩
    · intro t ht
      rw [Tr.get_set e]
      show VRd φ w _ ((a.tmps.setIfInBounds d u).getD t undef)
      rw [Array.getD_eq_getD_getElem?]
      by_cases q : t = d
      · subst q
        rw [if_pos rfl, Array.getElem?_setIfInBounds_self, if_pos hds]; exact .inr hv
      · rw [if_neg q, Array.getElem?_setIfInBounds_ne (Ne.symm q), ← Array.getD_eq_getD_getElem?]; exact f.get t ht
    · intro t ht
      rw [Tr.get_set e, if_neg (show ¬ t = d from fun q => by subst q; exact Nat.not_lt.2 ht hd)]; exact f.out t ht
end Go.Vai
/- The abstract machine: regions, control, functions. -/
namespace Go.Vai
set_option linter.unusedVariables false
set_option linter.unusedSimpArgs false
set_option linter.unusedSectionVars false
variable [Lane]
variable {P : Program} {base : Nat} {φ φ' φ'' : Emb} {h h' h'' : Heap} {w w' w'' : World}

theorem yield_ok {N : Nat} {fr : Fr} {a : Act} (f : FR N φ w fr a) (ops : Array Oper) (j : Nat) (hl : ((ops[j]?).bind (·.dst)).bind fr.get ≠ some .any) (hl2 : ∀ l, ((ops[j]?).bind (·.dst)).bind fr.get ≠ some (.vec l)) : yieldA ops fr j = yielded ops a.tmps j := by
  unfold yieldA yielded
  cases hd : (ops[j]?).bind (·.dst) with
  | none => rfl
  | some d =>
    rw [hd] at hl hl2
    simp only [Option.bind_some] at hl hl2 ⊢
    rcases Nat.lt_or_ge d N with q | q
    · have g0 := f.get d q
      have g : VR φ w ((fr.get d).getD .u) (a.tmps.getD d undef) := by
        rcases g0 with g0 | g0
        · cases hx : fr.get d with
          | none => rw [hx] at g0; cases g0
          | some x => rw [hx] at g0 hl; exact absurd (by rw [← g0]; rfl) hl
        · exact g0
      clear g0
      have e : a.tmps[d]? = some (a.tmps.getD d undef) := by
        rw [Array.getD_eq_getD_getElem?, Array.getElem?_eq_getElem (by rw [f.size]; exact q)]; rfl
      rw [e]
      generalize a.tmps.getD d undef = u at g
      cases hx : fr.get d with
      | none => rw [hx] at g; simp only [Option.getD_none] at g; cases g; rfl
      | some x => rw [hx] at g hl2; simp only [Option.getD_some] at g; cases g <;> first | rfl | (exact absurd rfl (hl2 _))
    · rw [f.out d q, Array.getElem?_eq_none (by rw [f.size]; exact q)]
theorem want_ok {N : Nat} {fr : Fr} {a : Act} (f : FR N φ w fr a) (ops : Array Oper) (o : Oper) (hl : guardLive ops fr o = true) : wantA ops fr o = Region.wanted o (yielded ops a.tmps) := by
  unfold wantA Region.wanted
  unfold guardLive at hl
  cases hg : o.guard with
  | none => rfl
  | some g =>
    obtain ⟨j, want⟩ := g
    rw [hg] at hl
    have hl' : ((ops[j]?).bind (·.dst)).bind fr.get ≠ some .any := by
      intro q
      simp only [q] at hl
      cases hl
    have hl2 : ∀ l, ((ops[j]?).bind (·.dst)).bind fr.get ≠ some (.vec l) := by
      intro l q
      simp only [q] at hl
      cases hl
    simp only [yield_ok f ops j hl' hl2]
    cases yielded ops a.tmps j <;> rfl
theorem put_defers (a : Act) (d : Option Tmp) (v : Value) : (a.put d v).defers = a.defers := by cases d <;> rfl

/-- globals are where the memory has them -/
def StatOk (φ : Emb) (w : World) : Prop := ∀ p ∈ Lane.stat, w.heap[p.1]? = some p.2 ∧ ∀ b g c, φ b g = some c → c.cb ≠ p.1
theorem StatOk.wstep (q : StatOk φ w) (s : WStep base φ h w φ' h' w') : StatOk φ' w' := by
  intro p hp
  obtain ⟨q1, q2⟩ := q p hp
  have hlt : p.1 < w.heap.size := by
    rcases Nat.lt_or_ge p.1 w.heap.size with z | z
    · exact z
    · rw [Array.getElem?_eq_none z] at q1; cases q1
  refine ⟨(s.kept.block p.1 hlt fun b g c e _ => q2 b g c e).trans q1, fun b g c e e2 => ?_⟩
  obtain ⟨g', c', k1, k2⟩ := s.newer b g c e (by rw [e2]; exact hlt)
  exact q2 b g' c' k1 (k2.trans e2)
structure GlobOk (glob : Nat → Option AV) (φ : Emb) (w : World) : Prop where
  at1 : ∀ g v, glob g = some v → VR φ w v (.pointer (some ⟨g, 0, none⟩))
  stat : StatOk φ w
theorem GlobOk.wstep {glob : Nat → Option AV} (g : GlobOk glob φ w) (s : WStep base φ h w φ' h' w') : GlobOk glob φ' w' := ⟨fun x v e => (g.at1 x v e).mono s.ext s.rows, g.stat.wstep s⟩
/-- .. told of the places that were known before -/
theorem GlobOk.ret {glob : Nat → Option AV} (g : GlobOk glob φ w) (s : WStep base φ h w φ' h' w') : GlobOk glob φ w' := ⟨fun x v e => (g.at1 x v e).mono (Ext.refl _) s.rows, fun p hp => ⟨(g.stat.wstep s p hp).1, (g.stat p hp).2⟩⟩
theorem GlobOk.step {glob : Nat → Option AV} (g : GlobOk glob φ w) (s : Step base φ h w φ' h' w') : GlobOk glob φ' w' := g.wstep s.toWStep
/-- a call that the machine answers is one that the model answers, alike -/
def CallOk (P : Program) (base : Nat) (glob : Nat → Option AV) (call : Nat → List AV → Heap → Option (AV × Heap)) : Prop :=
  ∀ f args h r, call f args h = some r → ∀ φ w (us : Array Value), HR base φ h w → GlobOk glob φ w → All2 (VR φ w) args us.toList →
    ((callFunc f us).run P w = .ok (.enter f us) w ∧ Calls P f us w (fun e w' => ∃ v φ', e = .returned v ∧ Step base φ h w φ' r.2 w' ∧ VR φ' w' r.1 v)) ∨
    ∃ v φ' w', (callFunc f us).run P w = .ok (.value v) w' ∧ Step base φ h w φ' r.2 w' ∧ VR φ' w' r.1 v
/-- what is left to be shown behind a piece of code -/
def After (base : Nat) (N : Nat) (φ : Emb) (h : Heap) (w : World) (ds : List Deferred) (st' : St) (K : Act → World → Prop) : Prop :=
  ∀ φ' w' a', Step base φ h w φ' st'.h w' → FR N φ' w' st'.fr a' → a'.defers = ds → K a' w'
theorem After.step {N : Nat} {ds : List Deferred} {st' : St} {K : Act → World → Prop} (H : HR base φ h w) (k : After base N φ h w ds st' K) (s : Step base φ h w φ' h' w') : After base N φ' h' w' ds st' K :=
  fun φ'' w'' a' t f d => k φ'' w'' a' (s.trans H t) f d

section
variable {glob : Nat → Option AV} {call : Nat → List AV → Heap → Option (AV × Heap)} {N : Nat} {Q : Exit → Act → World → Prop}
theorem put_skip {st : St} {st' : St} {a : Act} {dst : Option Tmp} {v : AV} {u : Value} {h1 : Heap} {K : Act → World → Prop} (H : HR base φ h w) (s : Step base φ h w φ' h1 w') (f : FR N φ' w' st.fr a) (hv : VR φ' w' v u)
    (e : (putA N st.fr dst v).map (mkSt h1) = some st') (k : After base N φ h w a.defers st' K) : K (a.put dst u) w' := by
  simp only [Option.map_eq_some_iff] at e
  obtain ⟨fr', hp, rfl⟩ := e
  exact k φ' w' _ s (f.put hv hp) (put_defers _ _ _)
theorem step_ok (hc : CallOk P base glob call) {ops : Array Oper} {i : Nat} {o : Oper} {st st' : St} {a : Act} (hi : ops[i]? = some o)
    (H : HR base φ st.h w) (G : GlobOk glob φ w) (f : FR N φ w st.fr a) (e : stepA P glob call N ops st o = some st') {K : Act → World → Prop} (k : After base N φ st.h w a.defers st' K) : wpOp P ops Q i K a w := by
  unfold stepA at e
  cases hgl : guardLive ops st.fr o with
  | false => rw [hgl] at e; cases e
  | true =>
  rw [hgl, cond_true] at e
  rw [want_ok f ops o hgl] at e
  unfold wpOp
  simp only [hi]
  cases hw : Region.wanted o (yielded ops a.tmps) with
  | false =>
    rw [hw, cond_false] at e
    rw [if_neg (by decide)]
    exact put_skip H (Step.refl H) f .u e k
  | true =>
    rw [hw, cond_true] at e
    rw [if_pos rfl]
    refine .inl ?_
    simp only [Option.bind_eq_some_iff] at e
    obtain ⟨r, hr, e⟩ := e
    have n := op_ok H (fun x v hx => f.eval G.at1 x v hx) hr
    unfold Oper.wp
    unfold afterA at e
    cases r with
    | val v h1 =>
      obtain ⟨φ', w', u, q1, q2, q3⟩ := n
      rw [q1, Oper.upon_value]
      exact put_skip H q2 (f.mono q2) q3 e k
    | skip h1 =>
      obtain ⟨φ', w', q1, q2⟩ := n
      rw [q1, Oper.upon_skip]
      exact put_skip H q2 (f.mono q2) .u e k
    | enter g xs =>
      obtain ⟨us, q1, q2⟩ := n
      simp only [Option.bind_eq_some_iff] at e
      obtain ⟨r, hr, e⟩ := e
      rcases hc g xs st.h r hr φ w us H G q2 with ⟨c1, c2⟩ | ⟨v, φ', w', c1, s, hv⟩
      case inr =>
        rw [q1, c1, Oper.upon_value]
        exact put_skip H s (f.mono s) hv e k
      rw [q1, c1, Oper.upon_enter]
      refine c2.mono ?_
      rintro _ w' ⟨v, φ', rfl, s, hv⟩
      exact put_skip H s (f.mono s) hv e k
theorem ops_ok (hc : CallOk P base glob call) {ops : Array Oper} : ∀ {l : List Nat} {os : List Oper}, All2 (fun i o => ops[i]? = some o) l os → ∀ {φ : Emb} {w : World} {st st' : St} {a : Act},
    HR base φ st.h w → GlobOk glob φ w → FR N φ w st.fr a → opsA P glob call N ops os st = some st' → After base N φ st.h w a.defers st' (Q .normal) → wpOps P ops Q l a w
  | [], _, .nil, φ, w, st, st', a, H, G, f, e, k => by
    simp only [opsA, Option.some.injEq] at e
    subst e
    exact k φ w a (Step.refl H) f rfl
  | i :: l, _, .cons (b := o) (m := os) hi t, φ, w, st, st', a, H, G, f, e, k => by
    simp only [opsA, Option.bind_eq_some_iff] at e
    obtain ⟨st1, e1, e2⟩ := e
    rw [wpOps_cons]
    refine step_ok hc hi H G f e1 ?_
    intro φ' w' a' s f' d
    exact ops_ok hc t s.hr (G.step s) f' e2 (d ▸ k.step H s)
theorem range_all (ops : Array Oper) : All2 (fun i o => ops[i]? = some o) (List.range ops.size) ops.toList := by
  have key : ∀ (l : List Oper) (s : Nat), (∀ i, l[i]? = ops[s + i]?) → All2 (fun i o => ops[i]? = some o) (List.range' s l.length) l := by
    intro l
    induction l with
    | nil => intro s _; exact .nil
    | cons o l ih =>
      intro s hs
      rw [List.length_cons, List.range'_succ]
      refine .cons (by have := hs 0; simp at this; exact this.symm) (ih (s + 1) fun i => ?_)
      have := hs (i + 1)
      simp at this
      rw [this]; congr 1; omega
  have := key ops.toList 0 (by intro i; simp)
  rw [List.range_eq_range']
  simpa using this
end
end Go.Vai
/- The abstract machine: regions that draw their order. -/
namespace Go.Vai
set_option linter.unusedVariables false
set_option linter.unusedSimpArgs false
set_option linter.unusedSectionVars false
variable [Lane]
variable {P : Program} {base : Nat} {φ φ' φ'' : Emb} {h h' h'' : Heap} {w w' w'' : World}

end Go.Vai
/- The abstract machine: regions that draw their order, whichever order is drawn. -/
namespace Go.Vai
set_option linter.unusedVariables false
set_option linter.unusedSimpArgs false
set_option linter.unusedSectionVars false
variable [Lane]
variable {P : Program} {base : Nat} {φ φ' φ'' : Emb} {h h' h'' : Heap} {w w' w'' : World}
section
variable {glob : Nat → Option AV} {call : Nat → List AV → Heap → Option (AV × Heap)} {N : Nat} {Q : Exit → Act → World → Prop} {ops : Array Oper}

theorem kind_le (o : Oper) : kindA P o = 0 ∨ kindA P o = 1 ∨ kindA P o = 2 := by
  unfold kindA
  split <;> first | exact .inl rfl | exact .inr (.inl rfl) | exact .inr (.inr rfl) | (split <;> first | exact .inl rfl | exact .inr (.inl rfl) | exact .inr (.inr rfl))
/-- who must be ahead -/
def pre (ops : Array Oper) (i : Nat) : List Nat := (preA ops.toList []).getD i []
theorem preA_old : ∀ (l : List Oper) (acc : List (List Nat)) (i : Nat), i < acc.length → (preA l acc).getD i [] = acc.getD i []
  | [], acc, i, _ => rfl
  | o :: r, acc, i, hi => by
    unfold preA
    rw [preA_old r _ i (by simp; omega)]
    simp only [List.getD_eq_getElem?_getD]
    rw [List.getElem?_append_left hi]
theorem preOf_mem {i j : Nat} {o : Oper} {acc : List (List Nat)} (h : j ∈ preOf i o acc) : j ∈ edgesA o ∨ ∃ e ∈ edgesA o, j ∈ acc.getD e [] := by
  unfold preOf at h
  obtain ⟨_, h⟩ := List.mem_filter.1 h
  simp only [Bool.or_eq_true, List.contains_iff_mem, List.any_eq_true] at h
  exact h
theorem preA_at : ∀ (l : List Oper) (acc : List (List Nat)) (k : Nat) (o : Oper), l[k]? = some o → (∀ x ∈ edgesA o, x < acc.length + k) →
    ∀ j ∈ (preA l acc).getD (acc.length + k) [], j ∈ edgesA o ∨ ∃ e ∈ edgesA o, j ∈ (preA l acc).getD e []
  | [], acc, k, o, e, _ => by simp at e
  | a :: r, acc, 0, o, e, hx => by
    simp only [List.getElem?_cons_zero, Option.some.injEq] at e
    subst e
    unfold preA
    intro j hj
    rw [preA_old r _ _ (by simp)] at hj
    have hg : (acc ++ [preOf acc.length a acc]).getD (acc.length + 0) [] = preOf acc.length a acc := by
      simp only [Nat.add_zero, List.getD_eq_getElem?_getD]
      rw [List.getElem?_append_right (Nat.le_refl _)]
      simp
    rw [hg] at hj
    rcases preOf_mem hj with q | ⟨e, he, q⟩
    · exact .inl q
    · refine .inr ⟨e, he, ?_⟩
      have hlt : e < acc.length := hx e he
      rw [preA_old r _ e (by simp; omega)]
      simp only [List.getD_eq_getElem?_getD] at q ⊢
      rw [List.getElem?_append_left hlt]
      exact q
  | a :: r, acc, k + 1, o, e, hx => by
    simp only [List.getElem?_cons_succ] at e
    unfold preA
    have := preA_at r (acc ++ [preOf acc.length a acc]) k o e (by intro x q; have := hx x q; simp; omega)
    rw [show acc.length + (k + 1) = (acc ++ [preOf acc.length a acc]).length + k by simp; omega]
    exact this
theorem pre_at {i : Nat} {o : Oper} (hi : ops[i]? = some o) (hx : ∀ x ∈ edgesA o, x < i) : ∀ j ∈ pre ops i, j ∈ edgesA o ∨ ∃ e ∈ edgesA o, j ∈ pre ops e := by
  have := preA_at ops.toList [] i o (by simpa using hi) (by simpa using hx)
  simpa [pre] using this
theorem pre_closed (hb : ∀ i o, ops[i]? = some o → ∀ x ∈ edgesA o, x < i) {S : Nat → Prop} (hd : ∀ i o, S i → ops[i]? = some o → ∀ e ∈ edgesA o, S e) (hs : ∀ i, S i → i < ops.size) :
    ∀ (i : Nat) (o : Oper), ops[i]? = some o → (∀ e ∈ edgesA o, S e) → ∀ j ∈ pre ops i, S j := by
  intro i
  induction i using Nat.strongRecOn with
  | _ i ih =>
    intro o hi he j hj
    rcases pre_at hi (hb i o hi) j hj with hj | ⟨e, h1, h2⟩
    · exact he j hj
    · skip
      have hlt := hb i o hi e h1
      have hse := he e h1
      obtain ⟨oe, hoe⟩ : ∃ oe, ops[e]? = some oe := ⟨ops[e]'(hs e hse), by simp [hs e hse]⟩
      exact ih e hlt oe hoe (hd e oe hse hoe) j h2
/-- what the check of a region says -/
structure Ordered (P : Program) (ops : Array Oper) : Prop where
  back : ∀ i o, ops[i]? = some o → ∀ x ∈ edgesA o, x < i
  pair : ∀ j i x o, j < i → ops[j]? = some x → ops[i]? = some o → (j ∈ pre ops i ∧ (x.dst = none ∨ x.dst ≠ o.dst)) ∨ (x.apart ops o = true ∧ (kindA P x ≠ 2 ∨ kindA P o ≠ 2 ∨ isAllocO P o = true))
  loose : ∀ i o j x c, ops[i]? = some o → (kindA P o ≠ 2 ∨ (isAllocO P o = true ∧ isRowO o = true)) → ops[j]? = some x → isAllocO P x = true → c < j → isChain P ops.toList c = true → c ∉ pre ops j → j ∈ pre ops i →
    ∃ k y, ops[k]? = some y ∧ k ∈ pre ops i ∧ kindA P y = 2 ∧ isAllocO P y = false ∧ j < k
theorem orderly_ok (e : orderly P ops = true) : Ordered P ops := by
  unfold orderly at e
  rw [Bool.and_eq_true] at e
  obtain ⟨eL, e⟩ := e
  rw [List.all_eq_true] at e
  have e' : ∀ i o, ops[i]? = some o → _ := fun i o hi => e (o, i) (by rw [List.mk_mem_zipIdx_iff_getElem?]; simpa using hi)
  refine ⟨fun i o hi x hx => ?_, fun j i x o hlt hj hi => ?_, ?_⟩
  · have := e' i o hi
    simp only [Bool.and_eq_true, List.all_eq_true, decide_eq_true_eq] at this
    exact this.1 x hx
  · have := e' i o hi
    simp only [Bool.and_eq_true, List.all_eq_true, decide_eq_true_eq] at this
    have q := this.2 (x, j) (by rw [List.mk_mem_zipIdx_iff_getElem?, List.getElem?_take_of_lt hlt]; simpa using hj)
    simp only [pairOk, freely, Bool.or_eq_true, Bool.and_eq_true, List.contains_iff_mem, Option.isNone_iff_eq_none, bne_iff_ne] at q
    rcases q with q | q | q
    · exact .inl q
    · exact .inr ⟨q.1, q.2.elim .inl fun k => .inr (.inl k)⟩
    · exact .inr ⟨q.2, .inr (.inr q.1)⟩
  · intro i o j x c hi hk hj hx hcj hc hnc hin
    unfold looseOk at eL
    have hi' : i < ops.size := (Array.getElem?_eq_some_iff.1 hi).1
    have hj' : j < ops.size := (Array.getElem?_eq_some_iff.1 hj).1
    have q := List.all_eq_true.1 eL i (by rw [List.mem_range, Array.length_toList]; exact hi')
    have hci : exemptO P ops.toList i = false := by
      unfold exemptO
      rw [Array.getElem?_toList, hi]
      rcases hk with hk | ⟨h1, h2⟩
      · simp [hk]
      · simp [h1, h2]
    rw [hci, Bool.false_or] at q
    have q2 := List.all_eq_true.1 q j (by rw [List.mem_range, Array.length_toList]; exact hj')
    have hl : looseA P ops.toList j = true := by
      unfold looseA
      rw [Array.getElem?_toList, hj, Bool.and_eq_true]
      refine ⟨hx, ?_⟩
      rw [List.any_eq_true]
      refine ⟨c, List.mem_range.2 hcj, ?_⟩
      rw [hc, Bool.true_and]
      simpa [pre] using hnc
    rw [hl, Bool.true_and] at q2
    have : ((preA ops.toList []).getD i []).contains j = true := by simpa [pre] using hin
    rw [this, Bool.not_true, Bool.false_or, List.any_eq_true] at q2
    obtain ⟨k, _, q3⟩ := q2
    simp only [Bool.and_eq_true, decide_eq_true_eq] at q3
    obtain ⟨k1, k2, k3⟩ := q3
    unfold isLink at k2
    rw [Array.getElem?_toList] at k2
    cases hy : ops[k]? with
    | none => rw [hy] at k2; cases k2
    | some y =>
      rw [hy] at k2
      simp only [Bool.and_eq_true, beq_iff_eq, Bool.not_eq_true'] at k2
      exact ⟨k, y, hy, by simpa [pre] using k1, k2.1, k2.2, k3⟩
/-- one operation in the order of the text -/
theorem stepD_put {s s' : St} {o : Oper} (e : stepD P glob call N ops s o = some s') : ∃ v, putA N s.fr o.dst v = some s'.fr := by
  unfold stepD at e
  cases hgl : guardLive ops s.fr o with
  | false => rw [hgl] at e; cases e
  | true =>
  rw [hgl, cond_true] at e
  cases hw : wantA ops s.fr o with
  | false =>
    rw [hw, cond_false, Option.map_eq_some_iff] at e
    obtain ⟨f, hf, rfl⟩ := e
    exact ⟨_, hf⟩
  | true =>
    rw [hw, cond_true, Option.bind_eq_some_iff] at e
    obtain ⟨r, hr, e⟩ := e
    unfold afterA at e
    split at e
    · rw [Option.map_eq_some_iff] at e
      obtain ⟨f, hf, rfl⟩ := e
      exact ⟨_, hf⟩
    · rw [Option.map_eq_some_iff] at e
      obtain ⟨f, hf, rfl⟩ := e
      exact ⟨_, hf⟩
    · rw [Option.bind_eq_some_iff] at e
      obtain ⟨r, _, e⟩ := e
      rw [Option.map_eq_some_iff] at e
      obtain ⟨f, hf, rfl⟩ := e
      exact ⟨_, hf⟩
theorem stepD_heap {s s' : St} {o : Oper} (hk : kindA P o ≠ 2) (e : stepD P glob call N ops s o = some s') : s'.h = s.h := by
  unfold stepD at e
  cases hgl : guardLive ops s.fr o with
  | false => rw [hgl] at e; cases e
  | true =>
  rw [hgl, cond_true] at e
  cases hw : wantA ops s.fr o with
  | false =>
    rw [hw, cond_false, Option.map_eq_some_iff] at e
    obtain ⟨f, hf, rfl⟩ := e
    rfl
  | true =>
    rw [hw, cond_true, Option.bind_eq_some_iff] at e
    obtain ⟨r, hr, e⟩ := e
    have : ∃ v, r = .val v s.h := by
      rcases kind_le (P := P) o with q | q | q
      · obtain ⟨v, q, _⟩ := free_ok q hr; exact ⟨v, q⟩
      · exact read_ok q hr
      · exact absurd q hk
    obtain ⟨v, rfl⟩ := this
    unfold afterA at e
    simp only [Option.map_eq_some_iff] at e
    obtain ⟨f, hf, rfl⟩ := e
    rfl
/-- a region's states in the order of the text -/
structure Run (P : Program) (glob : Nat → Option AV) (call : Nat → List AV → Heap → Option (AV × Heap)) (N : Nat) (ops : Array Oper) (sf : Nat → St) : Prop where
  ord : Ordered P ops
  step : ∀ i o, ops[i]? = some o → stepD P glob call N ops (sf i) o = some (sf (i + 1))
  steady : ∀ i s o, ops[i]? = some o → kindA P o = 1 → s ≤ ops.size → (s = 0 ∨ isChain P ops.toList (s - 1) = true) → window P (preA ops.toList []) ops.toList i s = true → between P ops.toList i s = true →
    wantA ops (sf i).fr o = false ∨ ∃ v h' h'', aop P (evalR glob (sf i).fr (o.looksAt ops)) (sf i).h o = some (.val v h') ∧ aop P (evalR glob (sf i).fr (o.looksAt ops)) (sf s).h o = some (.val v h'')
theorem put_get {fr fr' : Fr} {dst : Option Tmp} {v : AV} (e : putA N fr dst v = some fr') {t : Nat} (h : dst ≠ some t) : fr'.get t = fr.get t := by
  unfold putA at e
  cases dst with
  | none => cases e; rfl
  | some d =>
    simp only at e
    split at e
    · rw [Tr.get_set e, if_neg (fun q => h (by rw [q]))]
    · cases e
theorem put_at {fr fr' : Fr} {d : Nat} {v : AV} (e : putA N fr (some d) v = some fr') : fr'.get d = some v ∧ d < N := by
  unfold putA at e
  simp only at e
  split at e
  · rename_i q; exact ⟨by rw [Tr.get_set e, if_pos rfl], q⟩
  · cases e
theorem Run.same {sf : Nat → St} (R : Run P glob call N ops sf) {t : Nat} : ∀ (k i : Nat), i + k ≤ ops.size → (∀ m o, i ≤ m → m < i + k → ops[m]? = some o → o.dst ≠ some t) → (sf (i + k)).fr.get t = (sf i).fr.get t
  | 0, i, _, _ => rfl
  | k + 1, i, hk, hn => by
    have hlt : i + k < ops.size := by omega
    obtain ⟨o, ho⟩ : ∃ o, ops[i + k]? = some o := ⟨ops[i + k], by simp [hlt]⟩
    obtain ⟨v, hv⟩ := stepD_put (R.step (i + k) o ho)
    rw [show i + (k + 1) = i + k + 1 by omega, put_get hv (hn (i + k) o (by omega) (by omega) ho)]
    exact R.same k i (by omega) fun m o h1 h2 => hn m o h1 (by omega)
theorem Run.heap {sf : Nat → St} (R : Run P glob call N ops sf) : ∀ (k i : Nat), i + k ≤ ops.size → (∀ m, i ≤ m → m < i + k → isChain P ops.toList m = false) → (sf (i + k)).h = (sf i).h
  | 0, i, _, _ => rfl
  | k + 1, i, hk, hn => by
    have hlt : i + k < ops.size := by omega
    obtain ⟨o, ho⟩ : ∃ o, ops[i + k]? = some o := ⟨ops[i + k], by simp [hlt]⟩
    have hc := hn (i + k) (by omega) (by omega)
    have hk2 : kindA P o ≠ 2 := by
      intro q
      unfold isChain at hc
      rw [Array.getElem?_toList, ho] at hc
      simp [q] at hc
    rw [show i + (k + 1) = i + k + 1 by omega, stepD_heap hk2 (R.step (i + k) o ho)]
    exact R.heap k i (by omega) fun m h1 h2 => hn m h1 (by omega)
theorem Run.out {sf : Nat → St} (R : Run P glob call N ops sf) (h0 : ∀ t, N ≤ t → (sf 0).fr.get t = none) : ∀ i, i ≤ ops.size → ∀ t, N ≤ t → (sf i).fr.get t = none
  | 0, _, t, ht => h0 t ht
  | i + 1, hi, t, ht => by
    obtain ⟨o, ho⟩ : ∃ o, ops[i]? = some o := ⟨ops[i], by simp [show i < ops.size by omega]⟩
    obtain ⟨v, hv⟩ := stepD_put (R.step i o ho)
    have hne : o.dst ≠ some t := by
      intro q
      rw [q] at hv
      have := (put_at hv).2
      omega
    rw [put_get hv hne]
    exact R.out h0 i (by omega) t ht
end
end Go.Vai
/- The abstract machine: regions that draw their order: one answer. -/
namespace Go.Vai
set_option linter.unusedVariables false
set_option linter.unusedSimpArgs false
set_option linter.unusedSectionVars false
variable [Lane]
variable {P : Program} {base : Nat} {φ φ' φ'' : Emb} {h h' h'' : Heap} {w w' w'' : World}
section
variable {glob : Nat → Option AV} {call : Nat → List AV → Heap → Option (AV × Heap)} {N : Nat} {Q : Exit → Act → World → Prop} {ops : Array Oper} {sf : Nat → St} {φ0 : Emb} {w0 : World} {ds : List Deferred} {listed : Array Bool} {a : Act} {s : Nat} {pd : Nat → Nat}

/-- the model makes a block that the memory does not know of -/
theorem alloc_stay (H : HR base φ h w) (o : Obj) : Step base φ h w φ h (w.alloc o) := by
  have hrows := alloc_rows w o
  refine ⟨⟨⟨H.fresh, by rw [alloc_size]; have := H.low; omega, fun b g c q => by rw [alloc_size]; have := H.range _ _ _ q; omega, H.inj, H.los, ?_, ?_⟩, Ext.refl _, hrows, alloc_kept φ h w o, fun b g c q _ => ⟨g, c, q, rfl⟩, Nat.le_refl _, fun _ _ q => q⟩,
    fun b m n cur g c e1 e2 => ⟨alloc_get w o _ (H.range _ _ _ e2), rfl⟩⟩
  · intro b ro gen cs g c q1 q2
    obtain ⟨p1, p2, p3, arr, t, fz, pa, pf, pk⟩ := H.cells _ _ _ _ _ _ q1 q2
    refine ⟨p1, p2, p3, arr, t, fz, (alloc_get w o _ (H.range _ _ _ q2)).trans pa, pf, ?_⟩
    intro i lo v hi hle hao hie
    obtain ⟨u, r1, r2, r3⟩ := pk i lo v hi hle hao hie
    exact ⟨u, r1, r2.mono (Ext.refl _) hrows, r3⟩
  · intro b y g c q1 hy q2
    obtain ⟨p1, p0, ob, p2, p3⟩ := H.other _ _ _ _ q1 hy q2
    exact ⟨p1, p0, ob, (alloc_get w o _ (H.range _ _ _ q2)).trans p2, p3.mono (Ext.refl _) hrows⟩
/-- a block that the memory did not know of becomes a row of its own -/
theorem adopt_step {φs : Emb} {hs : Heap} {ws : World} (H0 : HR base φs hs ws) (S : Step base φs hs ws φ h w) {vs : List AV} {cb : Nat} {arr : Array Value} {t : TypeId} {fz : Nat × Nat} (hnew : ws.heap.size ≤ cb) (hlt : cb < w.heap.size)
    (hfree : ∀ b g c, φ b g = some c → c.cb ≠ cb) (hat : w.heap[cb]? = some (.cells arr t fz)) (hfz : FzG 0 fz arr.size) (hv : All2 (VR φ w) vs arr.toList) {r : Nat × Heap} (hr : newRow h vs = some r) :
    r.1 = h.next ∧ Step base φs hs ws (addE φ h.next 0 ⟨cb, 0, 0, vs.length⟩) r.2 w := by
  have H := S.hr
  unfold newRow at hr
  simp only [Option.bind_eq_some_iff, Option.some.injEq] at hr
  obtain ⟨cs, h1, os, ho, rfl⟩ := hr
  obtain ⟨g1, g2⟩ := fillTr_get 0 vs .nil cs 0 h1
  have g3 : ∀ i lo v, cs.get i = some (lo, v) → lo = 0 ∧ vs[i]? = some v := by
    intro i lo v hi
    rw [g1] at hi
    split at hi
    · simp only [Option.map_eq_some_iff, Prod.mk.injEq, Nat.sub_zero] at hi
      obtain ⟨v', k1, rfl, rfl⟩ := hi
      exact ⟨rfl, k1⟩
    · rw [Tr.get_nil] at hi; cases hi
  have hn : ∀ g, φ h.next g = none := (H.fresh h.next (Nat.le_refl _)).2
  have hext : Ext φ (addE φ h.next 0 ⟨cb, 0, 0, vs.length⟩) := addE_ext (hn 0)
  have inv : ∀ b g c, addE φ h.next 0 ⟨cb, 0, 0, vs.length⟩ b g = some c → (b = h.next ∧ g = 0 ∧ c = ⟨cb, 0, 0, vs.length⟩) ∨ (b ≠ h.next ∧ φ b g = some c) := by
    intro b g c q
    unfold addE at q
    split at q
    · rename_i p; exact .inl ⟨p.1, p.2, (Option.some.inj q).symm⟩
    · exact .inr ⟨(by rintro rfl; rw [hn] at q; cases q), q⟩
  have hbase : base ≤ cb := Nat.le_trans H0.low hnew
  refine ⟨rfl, ⟨⟨?_, H.low, ?_, ?_, ?_, ?_, ?_⟩, S.ext.trans hext, S.rows, S.kept, ?_, Nat.le_trans S.next (Nat.le_succ _), ?_⟩, ?_⟩
  · intro b hb
    have hb' : h.next + 1 ≤ b := hb
    refine ⟨?_, fun g => ?_⟩
    · show os.get b = none
      rw [Tr.get_set_ne ho (by omega)]; exact (H.fresh b (by omega)).1
    · cases q : addE φ h.next 0 ⟨cb, 0, 0, vs.length⟩ b g with
      | none => rfl
      | some c =>
        rcases inv b g c q with ⟨rfl, _⟩ | ⟨_, q2⟩
        · omega
        · rw [(H.fresh b (by omega)).2 g] at q2; cases q2
  · intro b g c q
    rcases inv b g c q with ⟨_, _, rfl⟩ | ⟨_, q2⟩
    · exact hlt
    · exact H.range _ _ _ q2
  · intro b g c b' g' c' q q' ec
    rcases inv b g c q with ⟨rfl, rfl, rfl⟩ | ⟨_, q2⟩ <;> rcases inv b' g' c' q' with ⟨rfl, rfl, rfl⟩ | ⟨_, q2'⟩
    · exact ⟨rfl, rfl, rfl⟩
    · exact absurd ec.symm (hfree _ _ _ q2')
    · exact absurd ec (hfree _ _ _ q2)
    · exact H.inj _ _ _ _ _ _ q2 q2' ec
  · intro b ro gen cs' q1 i lo v hi
    have q1' : os.get b = some (.cells ro gen cs') := q1
    by_cases hne : b = h.next
    · subst hne
      rw [Tr.get_set_same ho] at q1'
      cases q1'
      rw [(g3 i lo v hi).1]; exact Nat.le_refl _
    · rw [Tr.get_set_ne ho hne] at q1'; exact H.los _ _ _ _ q1' _ _ _ hi
  · intro b ro gen cs' g c q1 q2
    have q1' : os.get b = some (.cells ro gen cs') := q1
    rcases inv b g c q2 with ⟨rfl, rfl, rfl⟩ | ⟨hne, q3⟩
    · rw [Tr.get_set_same ho] at q1'
      cases q1'
      refine ⟨⟨Nat.le_refl _, rfl⟩, fun _ => hbase, fun i lo v hi => by rw [(g3 i lo v hi).1]; exact Nat.le_refl _, arr, t, fz, hat, fun _ => hfz, ?_⟩
      intro i lo v hi _ _ hie
      obtain ⟨_, k1⟩ := g3 i lo v hi
      obtain ⟨u, p1, p2⟩ := hv.get i _ k1
      exact ⟨u, by simpa using p1, p2.mono hext (Rows.refl _), g2 _ (List.mem_of_getElem? k1)⟩
    · rw [Tr.get_set_ne ho hne] at q1'
      obtain ⟨p1, p2, p3, arr', t', fz', pa, pf, pk⟩ := H.cells _ _ _ _ _ _ q1' q3
      refine ⟨p1, p2, p3, arr', t', fz', pa, pf, ?_⟩
      intro i lo v hi hle hao hie
      obtain ⟨u, r1, r2, r3⟩ := pk i lo v hi hle hao hie
      exact ⟨u, r1, r2.mono hext (Rows.refl _), r3⟩
  · intro b y g c q1 hy q2
    have q1' : os.get b = some y := q1
    rcases inv b g c q2 with ⟨rfl, rfl, rfl⟩ | ⟨hne, q3⟩
    · rw [Tr.get_set_same ho] at q1'
      cases q1'; cases hy
    · rw [Tr.get_set_ne ho hne] at q1'
      obtain ⟨p1, p0, ob, p2, p3⟩ := H.other _ _ _ _ q1' hy q3
      exact ⟨p1, p0, ob, p2, p3.mono hext (Rows.refl _)⟩
  · intro b g c q hc
    rcases inv b g c q with ⟨rfl, rfl, rfl⟩ | ⟨hne, q3⟩
    · have : cb < ws.heap.size := hc
      omega
    · exact S.newer b g c q3 hc
  · intro b hb q
    have : wr (os.get b) = true := q
    have hbn : b ≠ h.next := by have := S.next; omega
    rw [Tr.get_set_ne ho hbn] at this
    exact S.known b hb this
  · intro b m n cur g c e1 e2
    obtain ⟨k1, k2⟩ := S.its b m n cur g c e1 e2
    refine ⟨k1, ?_⟩
    have hbn : b ≠ h.next := by have := H0.below e2; have := S.next; omega
    show os.get b = _
    rw [Tr.get_set_ne ho hbn]; exact k2
/-- what a new variable, or row, holds -/
def rowO (P : Program) (ρ : Rho) (o : Oper) : Option (List AV × Nat) :=
  match o.op with
  | .alloc e => (zeroT P e).map fun z => (cellsA z, 1)
  | .buildSlice t len parts => rowP P ρ t len parts
  | _ => none
def formA (o : Oper) (b n sz : Nat) : AV :=
  match o.op with
  | .buildSlice _ len _ => .slice (some ⟨b, 0, 0, n⟩) len len sz
  | _ => .ptr (some ⟨b, 0, 0, n⟩)
def formV (o : Oper) (cb : Nat) : Value :=
  match o.op with
  | .buildSlice _ len _ => .slice (some ⟨cb, 0, none⟩) len len
  | _ => .pointer (some ⟨cb, 0, none⟩)
def fitO (o : Oper) (n sz : Nat) : Prop := ∀ t len parts, o.op = .buildSlice t len parts → n = len * sz ∧ 0 < sz
/-- a new variable that was made ahead of what stands before it -/
structure Pend (P : Program) (glob : Nat → Option AV) (ops : Array Oper) (st : St) (φ : Emb) (w0 w : World) (a : Act) (o : Oper) (cb : Nat) : Prop where
  dst : ∃ t, o.dst = some t ∧ a.tmps.getD t undef = formV o cb
  new : w0.heap.size ≤ cb
  lt : cb < w.heap.size
  free : ∀ b g c, φ b g = some c → c.cb ≠ cb
  cells : ∃ vs sz arr ty fz, rowO P (evalR glob st.fr (o.looksAt ops)) o = some (vs, sz) ∧ w.heap[cb]? = some (.cells arr ty fz) ∧ FzG 0 fz arr.size ∧ All2 (VR φ w) vs arr.toList
/-- what holds where some operations of a region are done -/
structure InvW (P : Program) (glob : Nat → Option AV) (base : Nat) (N : Nat) (ops : Array Oper) (sf : Nat → St) (φ0 : Emb) (w0 : World) (ds : List Deferred) (s : Nat) (pd : Nat → Nat) (listed : Array Bool) (φ : Emb) (w : World) (a : Act) : Prop where
  size : listed.size = ops.size
  down : ∀ i o, listed.getD i false = true → ops[i]? = some o → ∀ e ∈ edgesA o, listed.getD e false = true
  sle : s ≤ ops.size
  sat : s = 0 ∨ isChain P ops.toList (s - 1) = true
  below : ∀ c, isChain P ops.toList c = true → c < s → listed.getD c false = true
  pend : ∀ c, isChain P ops.toList c = true → s ≤ c → listed.getD c false = true → ∃ o, ops[c]? = some o ∧ isAllocO P o = true ∧ Pend P glob ops (sf c) φ w0 w a o (pd c)
  dist : ∀ c c', isChain P ops.toList c = true → isChain P ops.toList c' = true → s ≤ c → s ≤ c' → listed.getD c false = true → listed.getD c' false = true → pd c = pd c' → c = c'
  mem : Step base φ0 (sf 0).h w0 φ (sf s).h w
  tsize : a.tmps.size = N
  wrote : ∀ i o t, listed.getD i false = true → ops[i]? = some o → (isChain P ops.toList i = true → i < s) → o.dst = some t → VRd φ w (((sf (i + 1)).fr.get t).getD .u) (a.tmps.getD t undef)
  kept : ∀ t, t < N → (∀ i o, listed.getD i false = true → ops[i]? = some o → o.dst ≠ some t) → VRd φ w (((sf 0).fr.get t).getD .u) (a.tmps.getD t undef)
  defers : a.defers = ds
/-- and nothing is left pending without need -/
structure Inv (P : Program) (glob : Nat → Option AV) (base : Nat) (N : Nat) (ops : Array Oper) (sf : Nat → St) (φ0 : Emb) (w0 : World) (ds : List Deferred) (s : Nat) (pd : Nat → Nat) (listed : Array Bool) (φ : Emb) (w : World) (a : Act) : Prop extends InvW P glob base N ops sf φ0 w0 ds s pd listed φ w a where
  greedy : ∀ c, isChain P ops.toList c = true → s ≤ c → listed.getD c false = true → ∃ c', isChain P ops.toList c' = true ∧ s ≤ c' ∧ c' < c ∧ ¬ listed.getD c' false = true
theorem lt_of_some {i : Nat} {o : Oper} (hi : ops[i]? = some o) : i < ops.size := (Array.getElem?_eq_some_iff.1 hi).1
theorem listed_lt (hs : listed.size = ops.size) {i : Nat} (q : listed.getD i false = true) : i < ops.size := by
  rcases Nat.lt_or_ge i listed.size with k | k
  · omega
  · simp [Array.getD_eq_getD_getElem?, Array.getElem?_eq_none k] at q
theorem listed_not (hs : listed.size = ops.size) {i : Nat} (hi : i < ops.size) (hn : listed.getD i true = false) : ¬ listed.getD i false = true := by
  have : i < listed.size := by omega
  simp [Array.getD_eq_getD_getElem?, Array.getElem?_eq_getElem this] at hn ⊢
  exact hn
theorem InvW.pre (R : Run P glob call N ops sf) (I : InvW P glob base N ops sf φ0 w0 ds s pd listed φ w a) {i : Nat} {o : Oper} (hi : ops[i]? = some o) (hr : ∀ e ∈ edgesA o, listed.getD e false = true) :
    ∀ j ∈ pre ops i, listed.getD j false = true :=
  pre_closed (S := fun i => listed.getD i false = true) R.ord.back I.down (fun i q => listed_lt I.size q) i o hi hr
theorem pre_lt (hb : ∀ i o, ops[i]? = some o → ∀ x ∈ edgesA o, x < i) : ∀ (i : Nat) (o : Oper), ops[i]? = some o → ∀ j ∈ pre ops i, j < i := by
  intro i
  induction i using Nat.strongRecOn with
  | _ i ih =>
    intro o hi j hj
    rcases pre_at hi (hb i o hi) j hj with hj | ⟨e, h1, h2⟩
    · exact hb i o hi j hj
    · have hlt := hb i o hi e h1
      have hsz : e < ops.size := by have := (Array.getElem?_eq_some_iff.1 hi).1; omega
      have := ih e hlt ops[e] (by simp [hsz]) j h2
      omega
theorem chain_of {i : Nat} {o : Oper} (hi : ops[i]? = some o) : isChain P ops.toList i = (kindA P o == 2) := by
  unfold isChain
  rw [Array.getElem?_toList, hi]
theorem chain_some {c : Nat} (hc : isChain P ops.toList c = true) : ∃ o, ops[c]? = some o ∧ kindA P o = 2 := by
  unfold isChain at hc
  rw [Array.getElem?_toList] at hc
  cases h : ops[c]? with
  | none => rw [h] at hc; cases hc
  | some o => rw [h] at hc; exact ⟨o, rfl, by simpa using hc⟩
/-- ahead of a link of the chain that is no new variable all links are done -/
theorem InvW.chainW (R : Run P glob call N ops sf) (I : InvW P glob base N ops sf φ0 w0 ds s pd listed φ w a) {i : Nat} {o : Oper} (hi : ops[i]? = some o)
    (hr : ∀ e ∈ edgesA o, listed.getD e false = true) (hk : kindA P o = 2) (hna : isAllocO P o = false) : ∀ c, isChain P ops.toList c = true → c < i → listed.getD c false = true := by
  intro c hc q
  obtain ⟨x, hx, hxk⟩ := chain_some hc
  rcases R.ord.pair c i x o q hx hi with ⟨k, _⟩ | ⟨_, k⟩
  · exact I.pre R hi hr c k
  · rcases k with k | k | k
    · exact absurd hxk k
    · exact absurd hk k
    · rw [hna] at k; cases k
theorem alloc_looks {o : Oper} (h : isAllocO P o = true) (h2 : isRowO o = false) : o.looksAt ops = [] := by
  unfold isAllocO at h
  split at h
  · rename_i e ho
    simp only [Bool.and_eq_true, Option.isNone_iff_eq_none] at h
    simp [Oper.looksAt, ho, Op.operands, h.1]
  · rename_i ho
    unfold isRowO at h2
    rw [ho] at h2
    cases h2
  · cases h
theorem Inv.calm (R : Run P glob call N ops sf) (I : Inv P glob base N ops sf φ0 w0 ds s pd listed φ w a) {i : Nat} {o : Oper} (hi : ops[i]? = some o)
    (hr : ∀ e ∈ edgesA o, listed.getD e false = true) (hl : kindA P o = 2 → isAllocO P o = false ∨ isRowO o = true) {j : Nat} (hj : j ∈ pre ops i) (hc : isChain P ops.toList j = true) : j < s := by
  rcases Nat.lt_or_ge j s with q | q
  · exact q
  · exfalso
    have hlj := I.toInvW.pre R hi hr j hj
    obtain ⟨x, hx, hxa, _⟩ := I.pend j hc q hlj
    obtain ⟨c', k1, k2, k3, k4⟩ := I.greedy j hc q hlj
    have hnp : c' ∉ pre ops j := fun z => k4 (I.toInvW.pre R hx (I.down j x hlj hx) c' z)
    have byLink : ∀ k y, ops[k]? = some y → listed.getD k false = true → kindA P y = 2 → isAllocO P y = false → j < k → False := fun k y hy hlk hyk hya hjk =>
      k4 (I.toInvW.chainW R hy (I.down k y hlk hy) hyk hya c' k1 (by omega))
    by_cases hlink : kindA P o = 2 ∧ isAllocO P o = false
    · have hji := pre_lt R.ord.back i o hi j hj
      exact k4 (I.toInvW.chainW R hi hr hlink.1 hlink.2 c' k1 (by omega))
    · have hq : kindA P o ≠ 2 ∨ (isAllocO P o = true ∧ isRowO o = true) := by
        by_cases hk : kindA P o = 2
        · refine .inr ⟨?_, ?_⟩
          · cases q : isAllocO P o with
            | true => rfl
            | false => exact absurd ⟨hk, q⟩ hlink
          · rcases hl hk with q | q
            · exact absurd ⟨hk, q⟩ hlink
            · exact q
        · exact .inl hk
      obtain ⟨k, y, hy, hky, hyk, hya, hjk⟩ := R.ord.loose i o j x c' hi hq hx hxa k3 k1 hnp hj
      exact byLink k y hy (I.toInvW.pre R hi hr k hky) hyk hya hjk
theorem Inv.val (R : Run P glob call N ops sf) (I : Inv P glob base N ops sf φ0 w0 ds s pd listed φ w a) {i : Nat} {o : Oper} (hi : ops[i]? = some o) (hn : listed.getD i true = false)
    (hr : ∀ e ∈ edgesA o, listed.getD e false = true) {t : Nat} (ht : t ∈ o.looksAt ops) (htN : t < N) : VRd φ w (((sf i).fr.get t).getD .u) (a.tmps.getD t undef) := by
  have hpre := I.toInvW.pre R hi hr
  have hlt := lt_of_some hi
  have hnot := listed_not I.size hlt hn
  have hna : kindA P o = 2 → isAllocO P o = false ∨ isRowO o = true := by
    intro _
    cases q : isAllocO P o with
    | false => exact .inl rfl
    | true =>
      cases q2 : isRowO o with
      | true => exact .inr rfl
      | false => rw [alloc_looks q q2] at ht; cases ht
  by_cases hw : ∃ j x, j < i ∧ ops[j]? = some x ∧ x.dst = some t
  · obtain ⟨j, x, hj, hx, hxt⟩ := hw
    rcases R.ord.pair j i x o hj hx hi with ⟨h1, h2⟩ | ⟨h1, _⟩
    · have v := I.wrote j x t (hpre j h1) hx (fun hc => I.calm R hi hr hna h1 hc) hxt
      have e : (sf i).fr.get t = (sf (j + 1)).fr.get t := by
        have := R.same (t := t) (i - (j + 1)) (j + 1) (by omega) (fun m y m1 m2 hy hyt => by
          rcases R.ord.pair j m x y (by omega) hx hy with ⟨_, q⟩ | ⟨q, _⟩
          · rcases q with q | q
            · rw [hxt] at q; cases q
            · exact q (by rw [hxt, hyt])
          · exact (Oper.apart_spec q).2.1 t hxt hyt)
        rwa [show j + 1 + (i - (j + 1)) = i by omega] at this
      rw [e]; exact v
    · exact absurd ht ((Oper.apart_spec h1).1 t hxt)
  · have e0 : (sf i).fr.get t = (sf 0).fr.get t := by
      have := R.same (t := t) i 0 (by omega) (fun m y _ m2 hy hyt => hw ⟨m, y, by omega, hy, hyt⟩)
      simpa using this
    rw [e0]
    refine I.kept t htN fun k x hk hx hxt => ?_
    rcases Nat.lt_trichotomy k i with q | q | q
    · exact hw ⟨k, x, q, hx, hxt⟩
    · subst q; exact hnot hk
    · rcases R.ord.pair i k o x q hi hx with ⟨h1, _⟩ | ⟨h1, _⟩
      · exact hnot (I.toInvW.pre R hx (I.down k x hk hx) i h1)
      · exact (Oper.apart_spec h1).2.2 t hxt ht
theorem Inv.vals (R : Run P glob call N ops sf) (h0 : ∀ t, N ≤ t → (sf 0).fr.get t = none) (I : Inv P glob base N ops sf φ0 w0 ds s pd listed φ w a) {i : Nat} {o : Oper} (hi : ops[i]? = some o) (hn : listed.getD i true = false)
    (hr : ∀ e ∈ edgesA o, listed.getD e false = true) {t : Nat} (ht : t ∈ o.looksAt ops) : VRd φ w (((sf i).fr.get t).getD .u) (a.tmps.getD t undef) := by
  rcases Nat.lt_or_ge t N with q | q
  · exact I.val R hi hn hr ht q
  · rw [R.out h0 i (Nat.le_of_lt (lt_of_some hi)) t q, Array.getD_eq_getD_getElem?, Array.getElem?_eq_none (by rw [I.tsize]; exact q)]
    exact .inr .u
theorem want_loc {fr : Fr} {o : Oper} (hv : ∀ d ∈ o.looksAt ops, VRd φ w ((fr.get d).getD .u) (a.tmps.getD d undef)) (hl : guardLive ops fr o = true) : wantA ops fr o = Region.wanted o (yielded ops a.tmps) := by
  unfold wantA Region.wanted
  cases hg : o.guard with
  | none => rfl
  | some g =>
    obtain ⟨j, want⟩ := g
    have e : yieldA ops fr j = yielded ops a.tmps j := by
      unfold yieldA yielded
      cases hd : (ops[j]?).bind (·.dst) with
      | none => rfl
      | some d =>
        have g0 := hv d (by simp [Oper.looksAt, hg, hd])
        have g : VR φ w ((fr.get d).getD .u) (a.tmps.getD d undef) := by
          rcases g0 with g0 | g0
          · cases hx : fr.get d with
            | none => rw [hx] at g0; cases g0
            | some x =>
              rw [hx] at g0
              have g0 : x = .any := g0
              subst g0
              unfold guardLive at hl
              rw [hg] at hl
              simp only [hd, Option.bind_some, hx] at hl
              cases hl
          · exact g0
        clear g0
        have hl2 : ∀ l, fr.get d ≠ some (.vec l) := by
          intro l hx
          unfold guardLive at hl
          rw [hg] at hl
          simp only [hd, Option.bind_some, hx] at hl
          cases hl
        simp only [Option.bind_some]
        rw [Array.getD_eq_getD_getElem?] at g
        cases hx : fr.get d with
        | none =>
          rw [hx] at g; simp only [Option.getD_none] at g
          cases ht : a.tmps[d]? with
          | none => rfl
          | some u => rw [ht] at g; simp only [Option.getD_some] at g; cases g; rfl
        | some x =>
          rw [hx] at g; simp only [Option.getD_some] at g
          cases ht : a.tmps[d]? with
          | none => rw [ht] at g; simp only [Option.getD_none] at g; cases x <;> first | rfl | (exact absurd hx (hl2 _)) | (cases g)
          | some u => rw [ht] at g; simp only [Option.getD_some] at g; cases g <;> first | rfl | (exact absurd hx (hl2 _))
    simp only [e]
    cases yielded ops a.tmps j <;> rfl
theorem eval_loc (G : GlobOk glob φ w) {fr : Fr} {reads : List Nat} (hv : ∀ d ∈ reads, VRd φ w ((fr.get d).getD .u) (a.tmps.getD d undef)) (x : Operand) (v : AV) (e : evalR glob fr reads x = some v) : VR φ w v (a.eval x) := by
  cases x with
  | tmp t =>
    simp only [evalR] at e
    split at e
    · rename_i q
      exact VRd.tmp (hv t (by simpa using q)) e
    · cases e
  | const v' => exact ofV_VR e
  | global g => exact G.at1 g v e
  | func f =>
    simp only [evalR, evalO, Option.some.injEq] at e
    subst e
    exact .func f [] [] .nil
theorem set_getD {i j : Nat} (hs : i < listed.size) : ((listed.setIfInBounds i true).getD j false = true) ↔ (j = i ∨ listed.getD j false = true) := by
  by_cases q : j = i
  · subst q
    simp [Array.getD_eq_getD_getElem?, Array.getElem?_setIfInBounds_self, hs]
  · rw [getD_set_ne false (Ne.symm q)]
    simp [q]
theorem Step.keep (st : Step base φ h w φ' h' w') : ∀ cb, cb < w.heap.size → (∀ b g c, φ b g = some c → c.cb ≠ cb) → (∀ b g c, φ' b g = some c → c.cb ≠ cb) ∧ w'.heap[cb]? = w.heap[cb]? := by
  intro cb hcb hf
  refine ⟨fun b g c e ec => ?_, st.kept.block cb hcb fun b g c e _ => hf b g c e⟩
  obtain ⟨g0, c0, q1, q2⟩ := st.newer b g c e (by rw [ec]; exact hcb)
  exact hf b g0 c0 q1 (q2.trans ec)
theorem InvW.put (R : Run P glob call N ops sf) (I : InvW P glob base N ops sf φ0 w0 ds s pd listed φ w a) {i : Nat} {o : Oper} (hi : ops[i]? = some o) (hn : listed.getD i true = false)
    (hr : ∀ e ∈ edgesA o, listed.getD e false = true) {s' : Nat} {pd' : Nat → Nat} (hpd : ∀ c, c ≠ i → pd' c = pd c) (hs1 : s' ≤ ops.size) (hs2 : s' = 0 ∨ isChain P ops.toList (s' - 1) = true) (hss : s ≤ s')
    (hbelow : ∀ c, isChain P ops.toList c = true → c < s' → c = i ∨ listed.getD c false = true) (hold : ∀ c, isChain P ops.toList c = true → listed.getD c false = true → c < s' → c < s)
    (hmem : Step base φ0 (sf 0).h w0 φ' (sf s').h w') (hkeep : ∀ cb, cb < w.heap.size → (∀ b g c, φ b g = some c → c.cb ≠ cb) → (∀ b g c, φ' b g = some c → c.cb ≠ cb) ∧ w'.heap[cb]? = w.heap[cb]?) (hsize : w.heap.size ≤ w'.heap.size)
    (mono : ∀ x v, VRd φ w x v → VRd φ' w' x v) {u : Value} (hvu : (isChain P ops.toList i = true → i < s') → ∃ v, putA N (sf i).fr o.dst v = some (sf (i + 1)).fr ∧ VR φ' w' v u)
    (hpi : isChain P ops.toList i = true → s' ≤ i → isAllocO P o = true ∧ Pend P glob ops (sf i) φ' w0 w' (a.put o.dst u) o (pd' i) ∧ ∀ c, isChain P ops.toList c = true → s' ≤ c → listed.getD c false = true → pd c ≠ pd' i) :
    InvW P glob base N ops sf φ0 w0 ds s' pd' (listed.setIfInBounds i true) φ' w' (a.put o.dst u) := by
  have hlt := lt_of_some hi
  have hls : i < listed.size := by rw [I.size]; exact hlt
  have hnot := listed_not I.size hlt hn
  have hdist : ∀ j x, listed.getD j false = true → ops[j]? = some x → ∀ t, x.dst = some t → o.dst ≠ some t := by
    intro j x hj hx t hxt hot
    rcases Nat.lt_trichotomy j i with q | q | q
    · rcases R.ord.pair j i x o q hx hi with ⟨_, k⟩ | ⟨k, _⟩
      · rcases k with k | k
        · rw [hxt] at k; cases k
        · exact k (by rw [hxt, hot])
      · exact (Oper.apart_spec k).2.1 t hxt hot
    · subst q; exact hnot hj
    · rcases R.ord.pair i j o x q hi hx with ⟨_, k⟩ | ⟨k, _⟩
      · rcases k with k | k
        · rw [hot] at k; cases k
        · exact k (by rw [hxt, hot])
      · exact (Oper.apart_spec k).2.1 t hot hxt
  have tm : ∀ t, o.dst ≠ some t → (a.put o.dst u).tmps.getD t undef = a.tmps.getD t undef := by
    intro t ht
    cases hd : o.dst with
    | none => rfl
    | some d =>
      have : d ≠ t := fun q => ht (by rw [hd, q])
      show (a.tmps.setIfInBounds d u).getD t undef = _
      simp [Array.getD_eq_getD_getElem?, Array.getElem?_setIfInBounds_ne this]
  refine ⟨by simp [I.size], ?_, hs1, hs2, ?_, ?_, ?_, hmem, ?_, ?_, ?_, ?_⟩
  · intro j x hj hx e he
    rw [set_getD hls] at hj ⊢
    rcases hj with rfl | hj
    · rw [hi] at hx; cases hx; exact .inr (hr e he)
    · exact .inr (I.down j x hj hx e he)
  · intro c hc hcs
    rw [set_getD hls]
    exact hbelow c hc hcs
  · intro c hc hcs hl
    rw [set_getD hls] at hl
    by_cases q : c = i
    · subst q
      obtain ⟨k1, k2, _⟩ := hpi hc hcs
      exact ⟨o, hi, k1, k2⟩
    · have hl := hl.resolve_left q
      obtain ⟨x, hx, hxa, pe⟩ := I.pend c hc (by omega) hl
      obtain ⟨t, k1, k2⟩ := pe.dst
      obtain ⟨f1, f2⟩ := hkeep _ pe.lt pe.free
      rw [hpd c q]
      refine ⟨x, hx, hxa, ⟨t, k1, ?_⟩, pe.new, Nat.lt_of_lt_of_le pe.lt hsize, f1, ?_⟩
      · rw [tm t (hdist c x hl hx t k1)]; exact k2
      · obtain ⟨vs, sz, arr, ty, fz, z1, z2, z3, z4⟩ := pe.cells
        exact ⟨vs, sz, arr, ty, fz, z1, f2.trans z2, z3, z4.imp fun x v k => (mono x v (.inr k)).elim (fun q => by subst q; cases k) id⟩
  · intro c c' hc hc' hcs hcs' hl hl' e
    rw [set_getD hls] at hl hl'
    by_cases q : c = i
    · by_cases q' : c' = i
      · rw [q, q']
      · exfalso
        subst q
        obtain ⟨_, _, k3⟩ := hpi hc hcs
        rw [hpd c' q'] at e
        exact k3 c' hc' hcs' (hl'.resolve_left q') e.symm
    · by_cases q' : c' = i
      · exfalso
        subst q'
        obtain ⟨_, _, k3⟩ := hpi hc' hcs'
        rw [hpd c q] at e
        exact k3 c hc hcs (hl.resolve_left q) e
      · rw [hpd c q, hpd c' q'] at e
        exact I.dist c c' hc hc' (by omega) (by omega) (hl.resolve_left q) (hl'.resolve_left q') e
  · cases hd : o.dst with
    | none => exact I.tsize
    | some d => show (a.tmps.setIfInBounds d u).size = N; simp [I.tsize]
  · intro j x t hj hx hjs hxt
    rw [set_getD hls] at hj
    by_cases q : j = i
    · subst q
      rw [hi] at hx; cases hx
      obtain ⟨v, hv, hu⟩ := hvu hjs
      rw [hxt] at hv ⊢
      obtain ⟨k1, k2⟩ := put_at hv
      rw [k1]
      show VRd φ' w' v ((a.tmps.setIfInBounds t u).getD t undef)
      rw [Array.getD_eq_getD_getElem?, Array.getElem?_setIfInBounds_self, if_pos (by rw [I.tsize]; exact k2)]
      exact .inr hu
    · have hj := hj.resolve_left q
      rw [tm t (hdist j x hj hx t hxt)]
      exact mono _ _ (I.wrote j x t hj hx (fun hc => hold j hc hj (hjs hc)) hxt)
  · intro t ht hno
    have : o.dst ≠ some t := hno i o ((set_getD hls).2 (.inl rfl)) hi
    rw [tm t this]
    exact mono _ _ (I.kept t ht fun j x hj hx => hno j x ((set_getD hls).2 (.inr hj)) hx)
  · rw [put_defers]; exact I.defers
theorem Run.heap_eq (R : Run P glob call N ops sf) {s i : Nat} (hs : s ≤ ops.size) (hi : i ≤ ops.size) (hc : ∀ c, isChain P ops.toList c = true → (c < s ↔ c < i)) : (sf s).h = (sf i).h := by
  rcases Nat.le_total s i with q | q
  · have := R.heap (i - s) s (by omega) (fun m m1 m2 => by
      cases k : isChain P ops.toList m with
      | false => rfl
      | true => have := (hc m k).2 (by omega); omega)
    rw [show s + (i - s) = i by omega] at this
    exact this.symm
  · have := R.heap (s - i) i (by omega) (fun m m1 m2 => by
      cases k : isChain P ops.toList m with
      | false => rfl
      | true => have := (hc m k).1 (by omega); omega)
    rw [show i + (s - i) = s by omega] at this
    exact this
/-- what a new variable's operation leaves in the order of the text -/
theorem alloc_step {s1 s2 : St} {o : Oper} (ha : isAllocO P o = true) (e : stepD P glob call N ops s1 o = some s2) : ∃ vs sz t r, rowO P (evalR glob s1.fr (o.looksAt ops)) o = some (vs, sz) ∧ o.dst = some t ∧ newRow s1.h vs = some r ∧ s2.h = r.2 ∧
    putA N s1.fr (some t) (formA o r.1 vs.length sz) = some s2.fr ∧ fitO o vs.length sz := by
  have hg : o.guard = none := by
    unfold isAllocO at ha
    split at ha
    · simp only [Bool.and_eq_true, Option.isNone_iff_eq_none] at ha; exact ha.1
    · simp only [Bool.and_eq_true, Option.isNone_iff_eq_none] at ha; exact ha.1.1
    · cases ha
  have hd : o.dst.isSome = true := by
    unfold isAllocO at ha
    split at ha
    · simp only [Bool.and_eq_true] at ha; exact ha.2
    · simp only [Bool.and_eq_true] at ha; exact ha.1.2
    · cases ha
  cases hd' : o.dst with
  | none => rw [hd'] at hd; cases hd
  | some t =>
  unfold stepD at e
  have hgl : guardLive ops s1.fr o = true := by unfold guardLive; rw [hg]
  have hw : wantA ops s1.fr o = true := by unfold wantA; rw [hg]
  rw [hgl, hw, cond_true, cond_true, Option.bind_eq_some_iff] at e
  obtain ⟨r, hr, e⟩ := e
  unfold isAllocO at ha
  split at ha
  case h_3 => cases ha
  case h_1 el ho =>
    have hr0 : oAlloc P el (evalR glob s1.fr (o.looksAt ops)) s1.h = some r := by
      unfold aop aopY at hr
      have hX : aopX P (evalR glob s1.fr (o.looksAt ops)) s1.h o = none := by unfold aopX; rw [ho]
      have hY : lanesA P (evalR glob s1.fr (o.looksAt ops)) s1.h o = none := by unfold lanesA pureL; rw [ho]; rfl
      rw [hX, hY] at hr
      have : aop0 P (evalR glob s1.fr (o.looksAt ops)) s1.h o = oAlloc P el (evalR glob s1.fr (o.looksAt ops)) s1.h := by unfold aop0 opA; rw [ho]
      rw [this] at hr
      cases q : oAlloc P el (evalR glob s1.fr (o.looksAt ops)) s1.h with
      | none => rw [q] at hr; cases hr
      | some x => rw [q] at hr; exact hr
    unfold oAlloc newVal at hr0
    simp only [Option.bind_eq_some_iff, Option.map_eq_some_iff] at hr0
    obtain ⟨z, hz, r0, hr1, rfl⟩ := hr0
    unfold ptrOf afterA at e
    rw [hd'] at e
    simp only [Option.map_eq_some_iff] at e
    obtain ⟨f, hf, rfl⟩ := e
    refine ⟨cellsA z, 1, t, r0, ?_, rfl, hr1, rfl, ?_, ?_⟩
    · unfold rowO; rw [ho]; show (zeroT P el).map _ = _; rw [hz]; rfl
    · unfold formA; rw [ho]; exact hf
    · intro t' len parts q; rw [ho] at q; cases q
  case h_2 ty len parts ho =>
    simp only [Bool.and_eq_true] at ha
    have hr0 : oBuildSlice P ty len parts (evalR glob s1.fr (o.looksAt ops)) s1.h = some r := by
      unfold aop aopY at hr
      have hX : aopX P (evalR glob s1.fr (o.looksAt ops)) s1.h o = none := by unfold aopX; rw [ho]
      have hY : lanesA P (evalR glob s1.fr (o.looksAt ops)) s1.h o = none := by unfold lanesA pureL; rw [ho]; rfl
      rw [hX, hY] at hr
      have : aop0 P (evalR glob s1.fr (o.looksAt ops)) s1.h o = oBuildSlice P ty len parts (evalR glob s1.fr (o.looksAt ops)) s1.h := by unfold aop0 opA; rw [ho]
      rw [this] at hr
      cases q : oBuildSlice P ty len parts (evalR glob s1.fr (o.looksAt ops)) s1.h with
      | none => rw [q] at hr; cases hr
      | some x => rw [q] at hr; exact hr
    unfold oBuildSlice at hr0
    cases hu : P.underlying ty with
    | none => rw [hu] at hr0; cases hr0
    | some u =>
    rw [hu] at hr0 ha
    cases u <;> first | (cases hr0; done) | skip
    rename_i el
    have hb8 : isU8 P el = false := by have := ha.2; simpa using this
    simp only [Option.bind_eq_some_iff, hb8] at hr0
    obtain ⟨n, hn, z, hz, ps, hps, hr0⟩ := hr0
    split at hr0
    case isFalse => cases hr0
    rename_i hlen
    simp only [Option.bind_eq_some_iff, Option.map_eq_some_iff] at hr0
    obtain ⟨cs, hcs, q, hq, rfl⟩ := hr0
    have hl : cs.length = len * n := by rw [fillA_length _ _ _ hcs, reps_length, hlen.2.2.2]
    unfold slicePOf afterA at e
    rw [hd'] at e
    simp only [Option.map_eq_some_iff] at e
    obtain ⟨f, hf, rfl⟩ := e
    refine ⟨cs, n, t, q, ?_, rfl, hq, rfl, ?_, ?_⟩
    · unfold rowO; rw [ho]
      show rowP P _ ty len parts = _
      unfold rowP
      rw [hu]
      simp only [hn, hz, hps, Option.bind_some, if_pos hlen, hcs, Option.map_some]
    · unfold formA; rw [ho, hl]; exact hf
    · intro t' len' parts' q'
      rw [ho] at q'; cases q'
      exact ⟨hl, hlen.2.1⟩
theorem form_VR {o : Oper} {b n sz cb : Nat} (hL : LR φ ⟨b, 0, 0, n⟩ ⟨cb, 0, none⟩) {arr : Array Value} {ty : TypeId} {fz : Nat × Nat} (hat : w.heap[cb]? = some (.cells arr ty fz)) (hn : n ≤ arr.size) (hfz : FzG 0 fz arr.size) (hf : fitO o n sz) : VR φ w (formA o b n sz) (formV o cb) := by
  unfold formA formV
  cases ho : o.op <;> simp only <;> first | exact .ptr _ _ hL | skip
  rename_i t len parts
  obtain ⟨h1, h2⟩ := hf t len parts ho
  exact .slice _ _ _ _ _ _ (Nat.le_refl _) (Nat.le_refl _) h2 (by simp [h1]) (.inr ⟨hL, arr, ty, fz, hat, by simp only [Nat.zero_add]; omega, hfz.1⟩)
theorem row_raw {o : Oper} {ρ : Rho} {vs : List AV} {sz : Nat} (ha : isAllocO P o = true) (hρ : ∀ x v, ρ x = some v → VR φ w v (a.eval x)) (e : rowO P ρ o = some (vs, sz)) :
    ∃ us ty, (execOp a.eval o).run P w = .ok (.value (formV o w.heap.size)) (w.alloc (.cells us ty)) ∧ All2 (VR φ w) vs us.toList := by
  unfold isAllocO at ha
  split at ha
  case h_3 => cases ha
  case h_1 el ho =>
    unfold rowO at e
    rw [ho] at e
    simp only [Option.map_eq_some_iff, Prod.mk.injEq] at e
    obtain ⟨z, hz, rfl, rfl⟩ := e
    obtain ⟨zv, z1, z2⟩ := run_zeroT' hz
    refine ⟨zv.cells, el, ?_, cells_VR (z2 φ w)⟩
    unfold execOp formV
    rw [ho]
    simp only [Instr.alloc, Sem.run_bind, z1, Result.andThen_ok]
    rfl
  case h_2 t len parts ho =>
    unfold rowO at e
    rw [ho] at e
    obtain ⟨us, ty, h1, h2, _⟩ := buildSlice_raw (w := w) (φ := φ) (a := a) hρ (show rowP P ρ t len parts = some (vs, sz) from e)
    refine ⟨us, ty, ?_, h2⟩
    unfold execOp formV
    rw [ho]
    simp only [Sem.run_bind, h1, Result.andThen_ok]
    rfl
theorem InvW.adopt (R : Run P glob call N ops sf) (H0 : HR base φ0 (sf 0).h w0) (I : InvW P glob base N ops sf φ0 w0 ds s pd listed φ w a) {m : Nat} (hm : isChain P ops.toList m = true) (hsm : s ≤ m) (hl : listed.getD m false = true)
    (hmin : ∀ c, isChain P ops.toList c = true → s ≤ c → c < m → False) : ∃ φ', InvW P glob base N ops sf φ0 w0 ds (m + 1) pd listed φ' w a := by
  obtain ⟨o, ho, hoa, pe⟩ := I.pend m hm hsm hl
  have hlt := lt_of_some ho
  have he : (sf s).h = (sf m).h := R.heap_eq I.sle (Nat.le_of_lt hlt) fun c hc => ⟨fun q => by omega, fun q => by
    rcases Nat.lt_or_ge c s with k | k
    · exact k
    · exact (hmin c hc k q).elim⟩
  obtain ⟨vs, sz, t, r, k1, k2, k4, k5, k6, k7⟩ := alloc_step hoa (R.step m o ho)
  obtain ⟨vs', sz', arr, ty, fz, p1, p3, p4, p5⟩ := pe.cells
  rw [k1] at p1; cases p1
  have S0 := I.mem
  rw [he] at S0
  obtain ⟨q1, q2⟩ := adopt_step H0 S0 pe.new pe.lt pe.free p3 p4 p5 k4
  have hn : φ (sf m).h.next 0 = none := (S0.hr.fresh _ (Nat.le_refl _)).2 0
  have hext : Ext φ (addE φ (sf m).h.next 0 ⟨pd m, 0, 0, vs.length⟩) := addE_ext hn
  have mono : ∀ x v, VRd φ w x v → VRd (addE φ (sf m).h.next 0 ⟨pd m, 0, 0, vs.length⟩) w x v := fun x v k => k.imp id fun q => q.mono hext (Rows.refl _)
  refine ⟨addE φ (sf m).h.next 0 ⟨pd m, 0, 0, vs.length⟩, I.size, I.down, hlt, .inr (by rw [Nat.add_sub_cancel]; exact hm), ?_, ?_, ?_, ?_, I.tsize, ?_, ?_, I.defers⟩
  · intro c hc hcm
    by_cases q : c = m
    · rw [q]; exact hl
    · refine I.below c hc ?_
      rcases Nat.lt_or_ge c s with k | k
      · exact k
      · exact (hmin c hc k (by omega)).elim
  · intro c hc hcm hlc
    obtain ⟨x, hx, hxa, pe'⟩ := I.pend c hc (by omega) hlc
    refine ⟨x, hx, hxa, pe'.dst, pe'.new, pe'.lt, ?_, ?_⟩
    rotate_left
    · obtain ⟨vs2, sz2, arr2, ty2, fz2, z1, z2, z3, z4⟩ := pe'.cells
      exact ⟨vs2, sz2, arr2, ty2, fz2, z1, z2, z3, z4.imp fun x v k => k.mono hext (Rows.refl _)⟩
    intro b g c0 e ec
    unfold addE at e
    split at e
    · cases e
      have := I.dist c m hc hm (by omega) hsm hlc hl ec.symm
      omega
    · exact pe'.free b g c0 e ec
  · intro c c' hc hc' hcs hcs' l l' e
    exact I.dist c c' hc hc' (by omega) (by omega) l l' e
  · rw [k5]; exact q2
  · intro j x t' hj hx hjs hxt
    by_cases q : j = m
    · subst q
      rw [ho] at hx; cases hx
      rw [k2] at hxt; cases hxt
      obtain ⟨g1, g2⟩ := put_at k6
      rw [g1]
      obtain ⟨t2, d1, d2⟩ := pe.dst
      rw [k2] at d1; cases d1
      rw [d2, Option.getD_some]
      refine .inr (form_VR ⟨⟨pd j, 0, 0, vs.length⟩, ?_, rfl, Nat.le_refl _, rfl⟩ p3 (by have := p5.length; have h2 := arr.length_toList; omega) p4 k7)
      show addE φ (sf j).h.next 0 ⟨pd j, 0, 0, vs.length⟩ r.1 0 = _
      rw [q1]; exact addE_same _ _ _ _
    · refine mono _ _ (I.wrote j x t' hj hx (fun hc => ?_) hxt)
      have := hjs hc
      rcases Nat.lt_or_ge j s with k | k
      · exact k
      · exact (hmin j hc k (by omega)).elim
  · intro t' ht' hno
    exact mono _ _ (I.kept t' ht' hno)
theorem least {p : Nat → Prop} (h : ∃ m, p m) : ∃ m, p m ∧ ∀ k, k < m → ¬ p k := by
  obtain ⟨m, hm⟩ := h
  induction m using Nat.strongRecOn with
  | _ m ih =>
    by_cases q : ∃ k, k < m ∧ p k
    · obtain ⟨k, k1, k2⟩ := q
      exact ih k k1 k2
    · exact ⟨m, hm, fun k k1 k2 => q ⟨k, k1, k2⟩⟩
theorem InvW.advance (R : Run P glob call N ops sf) (H0 : HR base φ0 (sf 0).h w0) : ∀ (n : Nat) {s : Nat} {φ : Emb}, ops.size - s ≤ n → InvW P glob base N ops sf φ0 w0 ds s pd listed φ w a → ∃ s' φ', Inv P glob base N ops sf φ0 w0 ds s' pd listed φ' w a
  | n, s, φ, hn, I => by
    by_cases hg : ∀ c, isChain P ops.toList c = true → s ≤ c → listed.getD c false = true → ∃ c', isChain P ops.toList c' = true ∧ s ≤ c' ∧ c' < c ∧ ¬ listed.getD c' false = true
    · exact ⟨s, φ, I, hg⟩
    · have hx : ∃ c, isChain P ops.toList c = true ∧ s ≤ c ∧ listed.getD c false = true ∧ ∀ c', isChain P ops.toList c' = true → s ≤ c' → c' < c → listed.getD c' false = true := by
        apply Classical.byContradiction
        intro hno
        refine hg fun c h1 h2 h3 => ?_
        apply Classical.byContradiction
        intro hno2
        refine hno ⟨c, h1, h2, h3, fun c' g1 g2 g3 => ?_⟩
        apply Classical.byContradiction
        intro g4
        exact hno2 ⟨c', g1, g2, g3, g4⟩
      obtain ⟨c, h1, h2, h3, h4⟩ := hx
      obtain ⟨m, ⟨m1, m2, m3⟩, m4⟩ := least (p := fun m => isChain P ops.toList m = true ∧ s ≤ m ∧ m ≤ c) ⟨c, h1, h2, Nat.le_refl _⟩
      have hlm : listed.getD m false = true := by
        rcases Nat.lt_or_ge m c with q | q
        · exact h4 m m1 m2 q
        · have : m = c := by omega
          rw [this]; exact h3
      obtain ⟨φ', I'⟩ := I.adopt R H0 m1 m2 hlm (fun c' g1 g2 g3 => m4 c' g3 ⟨g1, g2, by omega⟩)
      have hms : m < ops.size := by obtain ⟨x, hx, _⟩ := chain_some m1; exact lt_of_some hx
      match n, hn with
      | 0, hn => exact absurd hn (by omega)
      | n + 1, hn => exact InvW.advance R H0 n (by omega) I'
/-- an operation that may be done, done -/
theorem any_step (hc : CallOk P base glob call) (R : Run P glob call N ops sf) (h0 : ∀ t, N ≤ t → (sf 0).fr.get t = none) (H0 : HR base φ0 (sf 0).h w0) (G0 : GlobOk glob φ0 w0)
    (I : Inv P glob base N ops sf φ0 w0 ds s pd listed φ w a) {i : Nat} (hready : i ∈ Region.ready .any ops listed) {K : Act → World → Prop}
    (hK : ∀ s' pd' φ' w' a', Inv P glob base N ops sf φ0 w0 ds s' pd' (listed.setIfInBounds i true) φ' w' a' → K a' w') : wpOp P ops Q i K a w := by
  obtain ⟨hn, o, hi, hr0⟩ := mem_ready.1 hready
  have hr : ∀ e ∈ edgesA o, listed.getD e false = true := by
    intro e he
    unfold edgesA at he
    obtain ⟨x, hx, rfl⟩ := List.mem_map.1 he
    obtain ⟨hx1, hx2⟩ := List.mem_filter.1 hx
    exact hr0 x (by simpa using hx1) hx2
  have hlt := lt_of_some hi
  have hls : i < listed.size := by rw [I.size]; exact hlt
  have hnot := listed_not I.size hlt hn
  have hvals : ∀ d ∈ o.looksAt ops, VRd φ w (((sf i).fr.get d).getD .u) (a.tmps.getD d undef) := fun d hd => I.vals R h0 hi hn hr hd
  have hst := R.step i o hi
  have hgl : guardLive ops (sf i).fr o = true := by
    cases q : guardLive ops (sf i).fr o with
    | true => rfl
    | false => unfold stepD at hst; rw [q] at hst; cases hst
  have hwant := want_loc hvals hgl
  have hs1 := I.sle
  have hs4 := I.mem
  have G : GlobOk glob φ w := G0.step hs4
  have hρ := eval_loc (a := a) G hvals
  have fin : ∀ {s' pd' φ' w' u}, InvW P glob base N ops sf φ0 w0 ds s' pd' (listed.setIfInBounds i true) φ' w' (a.put o.dst u) → K (a.put o.dst u) w' := by
    intro s' pd' φ' w' u J
    obtain ⟨s2, φ2, J2⟩ := J.advance R H0 ops.size (by omega)
    exact hK s2 pd' φ2 w' _ J2
  by_cases hal : isAllocO P o = true
  · -- a new variable, made now
    obtain ⟨vs, sz, t, r, k1, k2, k4, k5, k6, k7⟩ := alloc_step hal hst
    have hk : kindA P o = 2 := by
      unfold isAllocO at hal
      split at hal
      · rename_i q; unfold kindA; rw [q]
      · rename_i q; unfold kindA; rw [q]
      · cases hal
    have hci : isChain P ops.toList i = true := by rw [chain_of hi, hk]; rfl
    have hsi : s ≤ i := by
      rcases Nat.lt_or_ge i s with q | q
      · exact absurd (I.below i hci q) hnot
      · exact q
    have hw : wantA ops (sf i).fr o = true := by
      have hg : o.guard = none := by
        unfold isAllocO at hal
        split at hal
        · simp only [Bool.and_eq_true, Option.isNone_iff_eq_none] at hal; exact hal.1
        · simp only [Bool.and_eq_true, Option.isNone_iff_eq_none] at hal; exact hal.1.1
        · cases hal
      unfold wantA; rw [hg]
    unfold wpOp
    simp only [hi]
    rw [← hwant, hw, if_pos rfl]
    refine .inl ?_
    obtain ⟨us, ty, hexec, hvs⟩ := row_raw (w := w) hal hρ k1
    unfold Oper.wp
    rw [hexec, Oper.upon_value]
    have st := alloc_stay hs4.hr (.cells us ty)
    have hnew : w0.heap.size ≤ w.heap.size := hs4.kept.size
    refine fin (I.toInvW.put R hi hn hr (s' := s) (pd' := fun c => if c = i then w.heap.size else pd c) (fun c hc => if_neg hc) hs1 I.sat (Nat.le_refl _) (fun c hc q => .inr (I.below c hc q)) (fun c _ _ q => q) (hs4.trans H0 st) st.keep st.kept.size (fun _ _ k => k.step st)
      (fun q => absurd (q hci) (by omega)) fun _ _ => ⟨hal, ⟨⟨t, k2, ?_⟩, ?_, ?_, ?_, ?_⟩, ?_⟩)
    · rw [k2, if_pos rfl]
      have htN := (put_at k6).2
      show (a.tmps.setIfInBounds t _).getD t undef = _
      rw [Array.getD_eq_getD_getElem?, Array.getElem?_setIfInBounds_self, if_pos (by rw [I.tsize]; exact htN)]
      rfl
    · rw [if_pos rfl]; exact hnew
    · rw [if_pos rfl, alloc_size]; omega
    · intro b g c e
      rw [if_pos rfl]
      have := hs4.hr.range _ _ _ e
      omega
    · refine ⟨vs, sz, us, ty, (0, 0), k1, ?_, by have := fzG0 us.toList; rwa [Array.length_toList] at this, hvs.imp fun x v k => ((show VRd φ w x v from .inr k).step st).elim (fun q => by subst q; cases k) id⟩
      rw [if_pos rfl]
      exact alloc_new w _
    · intro c hcc hcs hl e
      rw [if_pos rfl] at e
      obtain ⟨x, _, _, pe⟩ := I.pend c hcc hcs hl
      have := pe.lt
      omega
  have hna : isAllocO P o = false := by simpa using hal
  -- the memory behind an operation that is no link of the chain
  have stay : ∀ {φ' w' u}, kindA P o ≠ 2 → Step base φ (sf s).h w φ' (sf s).h w' → (∃ v, putA N (sf i).fr o.dst v = some (sf (i + 1)).fr ∧ VR φ' w' v u) → K (a.put o.dst u) w' := by
    intro φ' w' u hk st hv
    have hci : isChain P ops.toList i = false := by rw [chain_of hi]; simpa using hk
    exact fin (I.toInvW.put R hi hn hr (s' := s) (pd' := pd) (fun _ _ => rfl) hs1 I.sat (Nat.le_refl _) (fun c hcc q => .inr (I.below c hcc q)) (fun c _ _ q => q) (hs4.trans H0 st) st.keep st.kept.size (fun _ _ k => k.step st)
      (fun _ => hv) fun q => by rw [hci] at q; cases q)
  have hcs : kindA P o = 2 → s ≤ i ∧ ∀ c, isChain P ops.toList c = true → s ≤ c → c < i → False := by
    intro hk
    have hci : isChain P ops.toList i = true := by rw [chain_of hi, hk]; rfl
    have hall := I.toInvW.chainW R hi hr hk hna
    refine ⟨?_, fun c hcc q1 q2 => ?_⟩
    · rcases Nat.lt_or_ge i s with q | q
      · exact absurd (I.below i hci q) hnot
      · exact q
    · obtain ⟨c', g1, g2, g3, g4⟩ := I.greedy c hcc q1 (hall c hcc q2)
      exact g4 (hall c' g1 (by omega))
  have go : ∀ {φ' w' u} {h1 : Heap}, kindA P o = 2 → (sf (i + 1)).h = h1 → Step base φ (sf i).h w φ' h1 w' → (∃ v, putA N (sf i).fr o.dst v = some (sf (i + 1)).fr ∧ VR φ' w' v u) → K (a.put o.dst u) w' := by
    intro φ' w' u h1 hk e1 st hv
    obtain ⟨c1, c2⟩ := hcs hk
    have hci : isChain P ops.toList i = true := by rw [chain_of hi, hk]; rfl
    have he : (sf s).h = (sf i).h := R.heap_eq hs1 (Nat.le_of_lt hlt) fun c hcc => ⟨fun q => by omega, fun q => by
      rcases Nat.lt_or_ge c s with k | k
      · exact k
      · exact (c2 c hcc k q).elim⟩
    have hm : Step base φ0 (sf 0).h w0 φ' (sf (i + 1)).h w' := by
      rw [e1]; rw [he] at hs4; exact hs4.trans H0 st
    refine fin (I.toInvW.put R hi hn hr (s' := i + 1) (pd' := pd) (fun _ _ => rfl) hlt (.inr (by rw [Nat.add_sub_cancel]; exact hci)) (by omega) ?_ ?_ hm st.keep st.kept.size (fun _ _ k => k.step st) (fun _ => hv) fun _ q => absurd q (by omega))
    · intro c hcc q
      by_cases z : c = i
      · exact .inl z
      · exact .inr (I.toInvW.chainW R hi hr hk hna c hcc (by omega))
    · intro c hcc hl q
      have hne : c ≠ i := by rintro rfl; exact hnot hl
      rcases Nat.lt_or_ge c s with k | k
      · exact k
      · exact (c2 c hcc k (by omega)).elim
  have hskip : kindA P o = 2 → (sf s).h = (sf i).h := fun hk => by
    obtain ⟨c1, c2⟩ := hcs hk
    exact R.heap_eq hs1 (Nat.le_of_lt hlt) fun c hcc => ⟨fun q => by omega, fun q => by
      rcases Nat.lt_or_ge c s with k | k
      · exact k
      · exact (c2 c hcc k q).elim⟩
  unfold wpOp
  simp only [hi]
  unfold stepD at hst
  rw [hgl, cond_true] at hst
  cases hw : wantA ops (sf i).fr o with
  | false =>
    rw [hw, cond_false, Option.map_eq_some_iff] at hst
    obtain ⟨f, hf, e⟩ := hst
    have e1 : (sf (i + 1)).fr = f := by rw [← e]; rfl
    have e2 : (sf (i + 1)).h = (sf i).h := by rw [← e]; rfl
    rw [← hwant, hw, if_neg (by decide)]
    by_cases hk : kindA P o = 2
    · exact go hk e2 (by have := hskip hk; rw [← this]; exact Step.refl hs4.hr) ⟨.u, by rw [e1]; exact hf, .u⟩
    · exact stay hk (Step.refl hs4.hr) ⟨.u, by rw [e1]; exact hf, .u⟩
  | true =>
    rw [hw, cond_true, Option.bind_eq_some_iff] at hst
    obtain ⟨r, hr', hst⟩ := hst
    rw [← hwant, hw, if_pos rfl]
    refine .inl ?_
    by_cases hk : kindA P o = 2
    · have he := hskip hk
      have n := op_ok hs4.hr hρ (by rw [he]; exact hr')
      rw [he] at n
      unfold Oper.wp
      unfold afterA at hst
      cases r with
      | val v h1 =>
        obtain ⟨φ', w', u, q1, q2, q3⟩ := n
        rw [q1, Oper.upon_value]
        simp only [Option.map_eq_some_iff] at hst
        obtain ⟨f, hf, e⟩ := hst
        have e1 : (sf (i + 1)).fr = f := by rw [← e]; rfl
        have e2 : (sf (i + 1)).h = h1 := by rw [← e]; rfl
        exact go hk e2 q2 ⟨v, by rw [e1]; exact hf, q3⟩
      | skip h1 =>
        obtain ⟨φ', w', q1, q2⟩ := n
        rw [q1, Oper.upon_skip]
        simp only [Option.map_eq_some_iff] at hst
        obtain ⟨f, hf, e⟩ := hst
        have e1 : (sf (i + 1)).fr = f := by rw [← e]; rfl
        have e2 : (sf (i + 1)).h = h1 := by rw [← e]; rfl
        exact go hk e2 q2 ⟨.u, by rw [e1]; exact hf, .u⟩
      | enter g xs =>
        obtain ⟨us, q1, q2⟩ := n
        simp only [Option.bind_eq_some_iff] at hst
        obtain ⟨r, hr2, hst⟩ := hst
        have HS : HR base φ (sf i).h w := by rw [← he]; exact hs4.hr
        rcases hc g xs (sf i).h r hr2 φ w us HS G q2 with ⟨c1, c2⟩ | ⟨v, φ', w', c1, st, hv⟩
        case inr =>
          rw [q1, c1, Oper.upon_value]
          simp only [Option.map_eq_some_iff] at hst
          obtain ⟨f, hf, e⟩ := hst
          have e1 : (sf (i + 1)).fr = f := by rw [← e]; rfl
          have e2 : (sf (i + 1)).h = r.2 := by rw [← e]; rfl
          exact go hk e2 st ⟨_, by rw [e1]; exact hf, hv⟩
        rw [q1, c1, Oper.upon_enter]
        refine c2.mono ?_
        rintro _ w' ⟨v, φ', rfl, st, hv⟩
        simp only [Option.map_eq_some_iff] at hst
        obtain ⟨f, hf, e⟩ := hst
        have e1 : (sf (i + 1)).fr = f := by rw [← e]; rfl
        have e2 : (sf (i + 1)).h = r.2 := by rw [← e]; rfl
        exact go hk e2 st ⟨_, by rw [e1]; exact hf, hv⟩
    · -- its value is the same, whenever it is done
      have hval : ∃ v, r = .val v (sf i).h ∧ aop P (evalR glob (sf i).fr (o.looksAt ops)) (sf s).h o = some (.val v (sf s).h) := by
        rcases kind_le (P := P) o with q | q | q
        · obtain ⟨v, k1, k2⟩ := free_ok q hr'
          exact ⟨v, k1, k2 _⟩
        · obtain ⟨v, rfl⟩ := read_ok q hr'
          refine ⟨v, rfl, ?_⟩
          cases hb : between P ops.toList i s with
          | false =>
            have he : (sf s).h = (sf i).h := R.heap_eq hs1 (Nat.le_of_lt hlt) fun c hcc => by
              unfold between at hb
              rw [List.any_eq_false] at hb
              obtain ⟨x, hx, _⟩ := chain_some hcc
              have := hb c (by rw [List.mem_range, Array.length_toList]; exact lt_of_some hx)
              simp only [hcc, Bool.true_and, bne_iff_ne, ne_eq, Decidable.not_not, decide_eq_decide] at this
              omega
            rw [he]; exact hr'
          | true =>
            have hwin : window P (preA ops.toList []) ops.toList i s = true := by
              unfold window
              rw [List.all_eq_true]
              intro c _
              cases hcc : isChain P ops.toList c with
              | false => rfl
              | true =>
                simp only [Bool.not_true, Bool.false_or, Bool.and_eq_true, Bool.or_eq_true, Bool.not_eq_true', decide_eq_true_eq]
                obtain ⟨x, hx, _⟩ := chain_some hcc
                constructor
                · cases hq : ((preA ops.toList []).getD i []).contains c with
                  | false => exact .inl rfl
                  | true => exact .inr (I.calm R hi hr (fun z => absurd z hk) (by simpa [Vai.pre] using hq) hcc)
                · cases hq : ((preA ops.toList []).getD c []).contains i with
                  | false => exact .inl rfl
                  | true =>
                    refine .inr (Nat.le_of_not_lt fun k => ?_)
                    have hl := I.below c hcc k
                    exact hnot (I.toInvW.pre R hx (I.down c x hl hx) i (by simpa [Vai.pre] using hq))
            rcases R.steady i s o hi q hs1 I.sat hwin hb with k | ⟨v', h1, h2, k1, k2⟩
            · rw [hw] at k; cases k
            · rw [hr'] at k1
              cases k1
              obtain ⟨v2, k3⟩ := read_ok q k2
              cases k3
              exact k2
        · exact absurd q hk
      obtain ⟨v, rfl, hv⟩ := hval
      obtain ⟨φ', w', u, q1, q2, q3⟩ := op_ok hs4.hr hρ hv
      unfold Oper.wp
      rw [q1, Oper.upon_value]
      unfold afterA at hst
      simp only [Option.map_eq_some_iff] at hst
      obtain ⟨f, hf, e⟩ := hst
      have e1 : (sf (i + 1)).fr = f := by rw [← e]; rfl
      exact stay hk q2 ⟨v, by rw [e1]; exact hf, q3⟩
end
end Go.Vai
/- The abstract machine: regions that draw their order: the whole region. -/
namespace Go.Vai
set_option linter.unusedVariables false
set_option linter.unusedSimpArgs false
set_option linter.unusedSectionVars false
variable [Lane]
variable {P : Program} {base : Nat} {φ φ' φ'' : Emb} {h h' h'' : Heap} {w w' w'' : World}
section
variable {glob : Nat → Option AV} {call : Nat → List AV → Heap → Option (AV × Heap)} {N : Nat} {Q : Exit → Act → World → Prop} {ops : Array Oper} {sf : Nat → St} {φ0 : Emb} {w0 : World} {ds : List Deferred} {listed : Array Bool} {a : Act} {s : Nat} {pd : Nat → Nat}

theorem Inv.done (R : Run P glob call N ops sf) (h0 : ∀ t, N ≤ t → (sf 0).fr.get t = none) (H0 : HR base φ0 (sf 0).h w0) (I : Inv P glob base N ops sf φ0 w0 ds s pd listed φ w a)
    (hall : ∀ i, i < ops.size → listed.getD i false = true) (k : After base N φ0 (sf 0).h w0 ds (sf ops.size) (Q .normal)) : Q .normal a w := by
  have hs4 := I.mem
  have hcs : ∀ c, isChain P ops.toList c = true → c < s := by
    intro c hcc
    obtain ⟨x, hx, _⟩ := chain_some hcc
    have hlt := lt_of_some hx
    rcases Nat.lt_or_ge c s with q | q
    · exact q
    · exfalso
      obtain ⟨c', k1, k2, k3, k4⟩ := I.greedy c hcc q (hall c hlt)
      exact k4 (hall c' (by omega))
  have he : (sf s).h = (sf ops.size).h := R.heap_eq I.sle (Nat.le_refl _) fun c hcc => by
    obtain ⟨x, hx, _⟩ := chain_some hcc
    have hlt := lt_of_some hx
    exact ⟨fun _ => hlt, fun _ => hcs c hcc⟩
  rw [he] at hs4
  refine k φ w a hs4 ⟨I.tsize, ?_, R.out h0 ops.size (Nat.le_refl _)⟩ I.defers
  intro t ht
  by_cases hw : ∃ (i : Nat) (o : Oper), ops[i]? = some o ∧ o.dst = some t
  · obtain ⟨i, o, hi, hot⟩ := hw
    have hlt := lt_of_some hi
    have v := I.wrote i o t (hall i hlt) hi (fun hcc => hcs i hcc) hot
    have e : (sf ops.size).fr.get t = (sf (i + 1)).fr.get t := by
      have := R.same (t := t) (ops.size - (i + 1)) (i + 1) (by omega) (fun m y m1 m2 hy hyt => by
        rcases R.ord.pair i m o y (by omega) hi hy with ⟨_, q⟩ | ⟨q, _⟩
        · rcases q with q | q
          · rw [hot] at q; cases q
          · exact q (by rw [hot, hyt])
        · exact (Oper.apart_spec q).2.1 t hot hyt)
      rwa [show i + 1 + (ops.size - (i + 1)) = ops.size by omega] at this
    rw [e]; exact v
  · have e : (sf ops.size).fr.get t = (sf 0).fr.get t := by
      have := R.same (t := t) ops.size 0 (by omega) (fun m y _ _ hy hyt => hw ⟨m, y, hy, hyt⟩)
      simpa using this
    rw [e]
    exact I.kept t ht fun i o _ hi hot => hw ⟨i, o, hi, hot⟩
theorem all_listed (R : Run P glob call N ops sf) (hs : listed.size = ops.size) (hr : Region.ready .any ops listed = []) : ∀ i, i < ops.size → listed.getD i false = true := by
  intro i
  induction i using Nat.strongRecOn with
  | _ i ih =>
    intro hi
    cases hl : listed.getD i false with
    | true => rfl
    | false =>
      exfalso
      have hmem : i ∈ Region.ready .any ops listed := by
        rw [mem_ready]
        have hlt : i < listed.size := by omega
        refine ⟨?_, ops[i], by simp [hi], fun e he hb => ?_⟩
        · simpa [Array.getD_eq_getD_getElem?, Array.getElem?_eq_getElem hlt] using hl
        · have : e.on < i := R.ord.back i ops[i] (by simp [hi]) e.on (List.mem_map.2 ⟨e, List.mem_filter.2 ⟨by simpa using he, hb⟩, rfl⟩)
          exact ih e.on this (by omega)
      rw [hr] at hmem
      cases hmem
theorem any_go (hc : CallOk P base glob call) (R : Run P glob call N ops sf) (h0 : ∀ t, N ≤ t → (sf 0).fr.get t = none) (H0 : HR base φ0 (sf 0).h w0) (G0 : GlobOk glob φ0 w0)
    (k : After base N φ0 (sf 0).h w0 ds (sf ops.size) (Q .normal)) : ∀ (fuel : Nat) (L : List Nat) (listed : Array Bool) (s : Nat) (pd : Nat → Nat) (φ : Emb) (w : World) (a : Act),
      Inv P glob base N ops sf φ0 w0 ds s pd listed φ w a → L.length ≤ fuel → (∀ i, i < ops.size → listed.getD i false = false → i ∈ L) → wpAny P .any ops Q fuel listed a w
  | 0, L, listed, s, pd, φ, w, a, I, hL, hm => by
    have hnil : L = [] := List.length_eq_zero_iff.1 (by omega)
    subst hnil
    have hall : ∀ i, i < ops.size → listed.getD i false = true := by
      intro i hi
      cases hl : listed.getD i false with
      | true => rfl
      | false => cases hm i hi hl
    refine ⟨?_, I.done R h0 H0 hall k⟩
    cases hr : Region.ready .any ops listed with
    | nil => rfl
    | cons x l =>
      exfalso
      have hx : x ∈ Region.ready .any ops listed := by rw [hr]; exact List.mem_cons_self
      obtain ⟨h1, o, ho, _⟩ := mem_ready.1 hx
      exact listed_not I.size (lt_of_some ho) h1 (hall x (lt_of_some ho))
  | fuel + 1, L, listed, s, pd, φ, w, a, I, hL, hm => by
    refine ⟨fun hr => I.done R h0 H0 (all_listed R I.size hr) k, fun i hi => ?_⟩
    refine any_step hc R h0 H0 G0 I hi fun s' pd' φ' w' a' I' => ?_
    obtain ⟨h1, o, ho, _⟩ := mem_ready.1 hi
    have hlt := lt_of_some ho
    have hls : i < listed.size := by rw [I.size]; exact hlt
    have hn : listed.getD i false = false := by
      cases q : listed.getD i false with
      | false => rfl
      | true => exact absurd q (listed_not I.size hlt h1)
    have hin := hm i hlt hn
    refine any_go hc R h0 H0 G0 k fuel (L.erase i) _ s' pd' φ' w' a' I' ?_ ?_
    · rw [List.length_erase_of_mem hin]; omega
    · intro j hj hjl
      have hne : j ≠ i := by
        rintro rfl
        have := (set_getD (listed := listed) (j := j) hls).2 (.inl rfl)
        rw [this] at hjl; cases hjl
      have hjl' : listed.getD j false = false := by
        cases q : listed.getD j false with
        | false => rfl
        | true =>
          have := (set_getD (listed := listed) (j := j) hls).2 (.inr q)
          rw [this] at hjl; cases hjl
      exact (List.mem_erase_of_ne hne).2 (hm j hj hjl')
theorem states_spec : ∀ (l : List Oper) (st : St) (sts : List St), statesA P glob call N ops l st = some sts →
    sts.length = l.length + 1 ∧ sts[0]? = some st ∧ lastO sts = sts[l.length]? ∧ ∀ k o, l[k]? = some o → ∃ s s', sts[k]? = some s ∧ sts[k + 1]? = some s' ∧ stepD P glob call N ops s o = some s'
  | [], st, sts, e => by
    simp only [statesA, Option.some.injEq] at e
    subst e
    exact ⟨rfl, rfl, rfl, fun k o q => by simp at q⟩
  | o :: r, st, sts, e => by
    simp only [statesA, Option.bind_eq_some_iff, Option.map_eq_some_iff] at e
    obtain ⟨s1, h1, l, h2, rfl⟩ := e
    obtain ⟨q1, q2, q3, q4⟩ := states_spec r s1 l h2
    refine ⟨by simp [q1], rfl, ?_, ?_⟩
    · cases l with
      | nil => simp at q1
      | cons x l => show lastO (x :: l) = _; rw [q3]; simp
    · intro k x hk
      cases k with
      | zero =>
        simp only [List.getElem?_cons_zero, Option.some.injEq] at hk
        subst hk
        exact ⟨st, s1, rfl, by simpa using q2, h1⟩
      | succ k =>
        obtain ⟨s, s', k1, k2, k3⟩ := q4 k x (by simpa using hk)
        exact ⟨s, s', by simpa using k1, by simpa using k2, k3⟩
theorem any_ok (hc : CallOk P base glob call) (hm : P.follows .mixedOrders = true) {id : Nat} {st st' : St} (H : HR base φ st.h w) (G : GlobOk glob φ w) (f : FR N φ w st.fr a)
    (e : anyA P glob call N ops st = some st') (k : After base N φ st.h w a.defers st' (Q .normal)) : (Code.region id ops true).wp P Q a w := by
  unfold anyA at e
  cases ho : orderly P ops with
  | false => rw [ho] at e; cases e
  | true =>
  rw [ho, cond_true, Option.bind_eq_some_iff] at e
  obtain ⟨sts, hs, e⟩ := e
  cases hl : (looks P ops.toList).all (steady1 P glob ops sts) with
  | false => rw [hl] at e; cases e
  | true =>
  rw [hl, cond_true] at e
  obtain ⟨q1, q2, q3, q4⟩ := states_spec ops.toList st sts hs
  let sf : Nat → St := fun i => (sts[i]?).getD st
  have sfz : sf 0 = st := by show (sts[0]?).getD st = st; rw [q2]; rfl
  have sfn : sf ops.size = st' := by
    show (sts[ops.size]?).getD st = st'
    rw [q3, Array.length_toList] at e
    rw [e]; rfl
  have hat : ∀ i, i ≤ ops.size → sts[i]? = some (sf i) := by
    intro i hi
    show sts[i]? = some ((sts[i]?).getD st)
    have : i < sts.length := by rw [q1, Array.length_toList]; omega
    rw [List.getElem?_eq_getElem this]; rfl
  have R : Run P glob call N ops sf := by
    refine ⟨orderly_ok ho, ?_, ?_⟩
    · intro i o hi
      obtain ⟨s, s', k1, k2, k3⟩ := q4 i o (by simpa using hi)
      have hlt := lt_of_some hi
      rw [hat i (by omega)] at k1
      rw [hat (i + 1) (by omega)] at k2
      cases k1; cases k2
      exact k3
    · intro i s o hi hk hs1 hs2 hwin hb
      have hlt := lt_of_some hi
      have hmem : (i, s) ∈ looks P ops.toList := by
        unfold looks
        rw [List.mem_flatMap]
        refine ⟨i, by rw [List.mem_range, Array.length_toList]; exact hlt, ?_⟩
        rw [Array.getElem?_toList, hi]
        simp only [hk, beq_self_eq_true, if_true, List.mem_map, List.mem_filter, List.mem_range, Array.length_toList, Bool.and_eq_true, Bool.or_eq_true]
        exact ⟨s, ⟨by omega, ⟨by rcases hs2 with q | q; exact .inl (by simpa using q); exact .inr q, hwin⟩, hb⟩, rfl⟩
      have := List.all_eq_true.1 hl (i, s) hmem
      unfold steady1 at this
      simp only [hi, hat i (by omega), hat s hs1, Bool.or_eq_true, Bool.not_eq_true'] at this
      rcases this with q | q
      · exact .inl q
      · right
        revert q
        cases h1 : aop P (evalR glob (sf i).fr (o.looksAt ops)) (sf i).h o with
        | none => simp
        | some r1 =>
          cases r1 with
          | val v h1' =>
            cases h2 : aop P (evalR glob (sf i).fr (o.looksAt ops)) (sf s).h o with
            | none => simp
            | some r2 =>
              cases r2 with
              | val v' h2' =>
                intro q
                have := sameV_eq q
                subst this
                exact ⟨v, h1', h2', rfl, rfl⟩
              | skip _ => simp
              | enter _ _ => simp
          | skip _ => simp
          | enter _ _ => simp
  have hd := drew_step H (w.drawn + 1)
  refine wp_region_any hm ?_
  have I : Inv P glob base N ops sf φ { w with drawn := w.drawn + 1 } a.defers 0 (fun _ => 0) (Array.replicate ops.size false) φ { w with drawn := w.drawn + 1 } a := by
    have hno : ∀ i, ¬ (Array.replicate ops.size false).getD i false = true := by
      intro i
      rw [Array.getD_eq_getD_getElem?, Array.getElem?_replicate]
      split <;> simp
    refine ⟨⟨by simp, fun i o q => absurd q (hno i), by omega, .inl rfl, fun c _ q => by omega, fun c _ _ q => absurd q (hno c), fun c c' _ _ _ _ q => absurd q (hno c), ?_, f.size, fun i o t q => absurd q (hno i), ?_, rfl⟩, fun c _ _ q => absurd q (hno c)⟩
    · rw [sfz]; exact Step.refl hd.hr
    · intro t ht _
      rw [sfz]
      exact (f.get t ht).step hd
  refine any_go (Q := Q) hc R (by rw [sfz]; exact f.out) (by rw [sfz]; exact hd.hr) (G.step hd) ?_ ops.size (List.range ops.size) _ _ _ _ _ _ I (by simp) (fun i hi _ => by simpa using hi)
  rw [sfz, sfn]
  exact k.step H hd
end
end Go.Vai
/- The abstract machine: control, functions. -/
namespace Go.Vai
set_option linter.unusedVariables false
set_option linter.unusedSimpArgs false
set_option linter.unusedSectionVars false
variable [Lane]
variable {P : Program} {base : Nat} {φ φ' φ'' : Emb} {h h' h'' : Heap} {w w' w'' : World}
section
variable {glob : Nat → Option AV} {call : Nat → List AV → Heap → Option (AV × Heap)} {N : Nat} {Q : Exit → Act → World → Prop}
def exOf : AEx → Exit
  | .normal => .normal
  | .exit id => .exit id
  | .ret => .ret
theorem code_ok (hc : CallOk P base glob call) (hmix : P.follows .mixedOrders = true) (L : Nat) (c : Code) : ∀ {Q : Exit → Act → World → Prop} {φ : Emb} {w : World} {st st' : St} {x : AEx} {a : Act},
    HR base φ st.h w → GlobOk glob φ w → FR N φ w st.fr a → codeA P glob call L N c st = some (x, st') → After base N φ st.h w a.defers st' (Q (exOf x)) → c.wp P Q a w := by
  induction c with
  | skip =>
    intro Q φ w st st' x a H G f e k
    simp only [codeA, Option.some.injEq, Prod.mk.injEq] at e
    obtain ⟨rfl, rfl⟩ := e
    exact wp_skip (k φ w a (Step.refl H) f rfl)
  | label l =>
    intro Q φ w st st' x a H G f e k
    simp only [codeA, Option.some.injEq, Prod.mk.injEq] at e
    obtain ⟨rfl, rfl⟩ := e
    exact wp_label (k φ w a (Step.refl H) f rfl)
  | exit id =>
    intro Q φ w st st' x a H G f e k
    simp only [codeA, Option.some.injEq, Prod.mk.injEq] at e
    obtain ⟨rfl, rfl⟩ := e
    exact wp_exit (k φ w a (Step.refl H) f rfl)
  | ret =>
    intro Q φ w st st' x a H G f e k
    simp only [codeA, Option.some.injEq, Prod.mk.injEq] at e
    obtain ⟨rfl, rfl⟩ := e
    exact wp_ret (k φ w a (Step.refl H) f rfl)
  | region id ops d =>
    intro Q φ w st st' x a H G f e k
    simp only [codeA] at e
    cases d with
    | true =>
      simp only [if_true, Option.map_eq_some_iff, Prod.mk.injEq] at e
      obtain ⟨st1, e1, rfl, rfl⟩ := e
      exact any_ok hc hmix H G f e1 k
    | false =>
    simp only [Bool.false_eq_true, if_false, Option.map_eq_some_iff, Prod.mk.injEq] at e
    obtain ⟨st1, e1, rfl, rfl⟩ := e
    exact wp_region (ops_ok hc (range_all ops) H G f e1 k)
  | seq c1 c2 ih1 ih2 =>
    intro Q φ w st st' x a H G f e k
    simp only [codeA, Option.bind_eq_some_iff] at e
    obtain ⟨⟨y, st1⟩, e1, e2⟩ := e
    refine wp_seq (ih1 H G f e1 ?_)
    intro φ' w' a' s f' d
    cases y with
    | normal => exact ih2 s.hr (G.step s) f' e2 (d ▸ k.step H s)
    | exit id => simp only [Option.some.injEq, Prod.mk.injEq] at e2; obtain ⟨rfl, rfl⟩ := e2; exact k φ' w' a' s f' d
    | ret => simp only [Option.some.injEq, Prod.mk.injEq] at e2; obtain ⟨rfl, rfl⟩ := e2; exact k φ' w' a' s f' d
  | cond c c1 c2 ih1 ih2 =>
    intro Q φ w st st' x a H G f e k
    simp only [codeA, Option.bind_eq_some_iff] at e
    obtain ⟨v, hv0, e⟩ := e
    have hv := f.eval G.at1 _ _ hv0
    clear hv0
    split at e
    · refine wp_cond (t := true) ?_ (ih1 H G f e k)
      generalize a.eval c = u at hv
      cases hv; rfl
    · refine wp_cond (t := false) ?_ (ih2 H G f e k)
      generalize a.eval c = u at hv
      cases hv; rfl
    · cases e
  | block id c ih =>
    intro Q φ w st st' x a H G f e k
    simp only [codeA, Option.map_eq_some_iff] at e
    obtain ⟨⟨y, st1⟩, e1, e2⟩ := e
    refine wp_block (ih H G f e1 ?_)
    intro φ' w' a' s f' d
    cases y with
    | normal => cases e2; exact k φ' w' a' s f' d
    | ret => cases e2; exact k φ' w' a' s f' d
    | exit id' =>
      simp only [exOf, Exit.inBlock]
      simp only at e2
      split at e2
      · rename_i q; cases e2; rw [if_pos q]; exact k φ' w' a' s f' d
      · rename_i q; cases e2; rw [if_neg q]; exact k φ' w' a' s f' d
  | loop c ih =>
    intro Q φ w st st' x a H G f e k
    simp only [codeA] at e
    have key : ∀ n {φ : Emb} {w : World} {st : St} {a : Act}, HR base φ st.h w → GlobOk glob φ w → FR N φ w st.fr a → iterA (codeA P glob call L N c) n st = some (x, st') → After base N φ st.h w a.defers st' (Q (exOf x)) → Code.rounds P c Q n a w := by
      intro n
      induction n with
      | zero => intro φ w st a H G f e; simp [iterA] at e
      | succ n ihn =>
        intro φ w st a H G f e k
        simp only [iterA, Option.bind_eq_some_iff] at e
        obtain ⟨⟨y, st1⟩, e1, e2⟩ := e
        refine ih H G f e1 ?_
        intro φ' w' a' s f' d
        cases y with
        | normal => exact ihn s.hr (G.step s) f' e2 (d ▸ k.step H s)
        | exit id => simp only [Option.some.injEq, Prod.mk.injEq] at e2; obtain ⟨rfl, rfl⟩ := e2; exact k φ' w' a' s f' d
        | ret => simp only [Option.some.injEq, Prod.mk.injEq] at e2; obtain ⟨rfl, rfl⟩ := e2; exact k φ' w' a' s f' d
    exact wp_loop_rounds L (key L H G f e k)
  | rangeFunc => intro Q φ w st st' x a H G f e k; simp [codeA] at e
  | scope => intro Q φ w st st' x a H G f e k; simp [codeA] at e
  | goto => intro Q φ w st st' x a H G f e k; simp [codeA] at e
  | refuse => intro Q φ w st st' x a H G f e k; simp [codeA] at e
/-- a frame's start -/
theorem args_fr : ∀ {l : List AV} {us : List Value} {i : Nat} {fr fr' : Fr}, argsFr i l fr = some fr' → All2 (VR φ w) l us →
    ∀ t, (fr'.get t = if i ≤ t ∧ t < i + l.length then l[t - i]? else fr.get t)
  | [], _, i, fr, fr', e, _, t => by
    simp only [argsFr, Option.some.injEq] at e
    subst e
    rw [if_neg (by simp)]
  | v :: l, _, i, fr, fr', e, .cons hv hl, t => by
    simp only [argsFr, Option.bind_eq_some_iff] at e
    obtain ⟨f1, e1, e2⟩ := e
    rw [args_fr e2 hl t, Tr.get_set e1]
    simp only [List.length_cons]
    by_cases q : t = i
    · subst q
      rw [if_neg (by omega), if_pos rfl, if_pos (by omega)]; simp
    · by_cases q2 : i + 1 ≤ t ∧ t < i + 1 + l.length
      · rw [if_pos q2, if_pos (by omega), show t - i = (t - (i + 1)) + 1 by omega, List.getElem?_cons_succ]
      · rw [if_neg q2, if_neg q, if_neg (by omega)]
theorem FR.start {l : List AV} {us : Array Value} {fr : Fr} (e : argsFr 0 l .nil = some fr) (hl : All2 (VR φ w) l us.toList) (hn : l.length ≤ N) :
    FR N φ w fr { tmps := us ++ Array.replicate (N - us.size) undef, defers := [] } := by
  have hs : us.size = l.length := by rw [← Array.length_toList]; exact hl.length.symm
  have g := args_fr e hl
  refine ⟨by simp; omega, ?_, ?_⟩
  · intro t ht
    rw [g t]
    refine .inr ?_
    show VR φ w _ ((us ++ Array.replicate (N - us.size) undef).getD t undef)
    rw [Array.getD_eq_getD_getElem?]
    by_cases q : t < l.length
    · rw [if_pos (by omega), Nat.sub_zero, Array.getElem?_append_left (by omega), List.getElem?_eq_getElem q]
      obtain ⟨b, h1, h2⟩ := hl.get t _ (List.getElem?_eq_getElem q)
      rw [Array.getElem?_toList] at h1
      rw [h1]
      exact h2
    · rw [if_neg (by omega), Array.getElem?_append_right (by omega)]
      simp only [Tr.get_nil, Option.getD_none]
      have : (Array.replicate (N - us.size) undef)[t - us.size]?.getD undef = undef := by
        cases hh : (Array.replicate (N - us.size) undef)[t - us.size]? with
        | none => rfl
        | some z =>
          rw [Array.getElem?_replicate] at hh
          split at hh
          · cases hh; rfl
          · cases hh
      rw [this]
      exact .u
  · intro t ht
    rw [g t, if_neg (by omega)]; exact Tr.get_nil t
theorem res_ok (H : HR base φ h w) {fr : Fr} {a : Act} (f : FR N φ w fr a) {r : ResultVar} {v : AV} (e : resA P h fr r = some v) :
    ∃ u, (match r with | .tmp t => pure (a.tmps.getD t undef) | .cell p t => do loadVar t (← asAddr (a.tmps.getD p undef)) : Sem Value).run P w = .ok u w ∧ VR φ w v u := by
  cases r with
  | tmp t =>
    simp only [resA, Option.bind_eq_some_iff] at e
    obtain ⟨x, hx, e⟩ := e
    have : t < N := by
      rcases Nat.lt_or_ge t N with q | q
      · exact q
      · rw [f.out t q] at hx; cases hx
    refine ⟨_, rfl, ?_⟩
    have g := f.get t this
    rw [hx] at g
    exact VRd.live g e
  | cell p t =>
    simp only [resA, Option.bind_eq_some_iff] at e
    obtain ⟨x, ⟨x0, hx, hlx⟩, e⟩ := e
    have hp : p < N := by
      rcases Nat.lt_or_ge p N with q | q
      · exact q
      · rw [f.out p q] at hx; cases hx
    have g0 := f.get p hp
    rw [hx] at g0
    have g := VRd.live g0 hlx
    clear g0
    obtain ⟨u, h1, h2⟩ := loadAt_ok (P := P) H g e
    refine ⟨u, ?_, h2⟩
    show (do loadVar t (← asAddr (a.tmps.getD p undef)) : Sem Value).run P w = .ok u w
    generalize a.tmps.getD p undef = pv at g h1 ⊢
    unfold loadV at e
    split at e
    case h_2 => cases e
    cases g with
    | ptr _ ad hL =>
      unfold Instr.loadAt at h1
      have r0 : (Instr.sureAddr (.pointer (some ad))).run P w = .ok ad w := rfl
      simp only [Sem.run_bind, r0, Result.andThen_ok] at h1
      simp only [Sem.run_bind, asAddr, Sem.run_pure, Result.andThen_ok]
      exact h1
theorem res_all {fr : Fr} {g : ResultVar → Sem Value} (hg : ∀ r v, resA P h fr r = some v → ∃ u, (g r).run P w = .ok u w ∧ VR φ w v u) : ∀ {rs : List ResultVar} {vs : List AV}, mapO (resA P h fr) rs = some vs →
    ∃ us, (rs.mapM g).run P w = .ok us w ∧ All2 (VR φ w) vs us
  | [], vs, e => by
    simp only [mapO, Option.some.injEq] at e
    subst e
    exact ⟨[], rfl, .nil⟩
  | r :: rs, vs, e => by
    simp only [mapO, Option.bind_eq_some_iff, Option.some.injEq] at e
    obtain ⟨v, hv, l, hl, rfl⟩ := e
    obtain ⟨u, h1, h2⟩ := hg r v hv
    obtain ⟨us, h3, h4⟩ := res_all hg hl
    exact ⟨u :: us, by simp [List.mapM_cons, h1, h3], .cons h2 h4⟩
theorem results_ok (H : HR base φ h w) {fr : Fr} {a : Act} (f : FR N φ w fr a) {fn : Func} {vs : List AV} (e : mapO (resA P h fr) fn.results.toList = some vs) :
    ∃ u, (results fn a.tmps).run P w = .ok u w ∧ VR φ w (tupA vs) u := by
  obtain ⟨us, h1, h2⟩ := res_all (g := fun r => match r with | .tmp t => pure (a.tmps.getD t undef) | .cell p t => do loadVar t (← asAddr (a.tmps.getD p undef))) (fun r v hr => res_ok H f hr) e
  unfold results
  rw [Array.mapM_eq_mapM_toList]
  simp only [Sem.run_bind, map_eq_pure_bind, Sem.run_pure]
  refine ⟨_, (congrArg (fun r => (Result.andThen r fun a w' => Result.ok a.toArray w').andThen fun a w' => Result.ok (if h : a.size = 1 then a[0] else Value.tuple a) w') h1).trans rfl, ?_⟩
  · match vs, us, h2 with
    | [], _, .nil => exact .tup _ _ .nil
    | [v], _, .cons hv .nil => exact hv
    | _ :: _ :: _, _, .cons hv (.cons hv' t) => exact VR.tup _ _ (.cons hv (.cons hv' t))
end
/-- no function is one that the machine's step answers by itself; regions draw among all orders -/
structure Plain (P : Program) : Prop where
  names : ∀ (f : FuncId) (fn : Func), P.funcs[f]? = some fn → (fn.name == "runtime.NumGoroutine") = false
  mixed : P.follows .mixedOrders = true
end Go.Vai
/- The abstract machine: ranges over functions: the iterator's own code, and a round's. -/
namespace Go.Vai
set_option linter.unusedVariables false
set_option linter.unusedSimpArgs false
set_option linter.unusedSectionVars false
variable [Lane]
variable {P : Program} {base : Nat} {φ φ' φ'' : Emb} {h h' h'' : Heap} {w w' w'' : World}
section
variable {glob : Nat → Option AV} {call : Nat → List AV → Heap → Option (AV × Heap)} {N n : Nat} {F : Fence} {yb l : Nat} {yc : YieldT} {LI : Emb → Heap → World → Prop}
/-- what a call of the loop's own function does -/
def YieldOk (P : Program) (base : Nat) (F : Fence) (n : Nat) (glob : Nat → Option AV) (yb : Nat) (LI : Emb → Heap → World → Prop) (yc : YieldT) : Prop :=
  ∀ xs h r, yc xs h = some r → ∀ φ w (us : Array Value) (l : Nat), HR base φ h w → GlobOk glob φ w → LI φ h w → All2 (VR φ w) xs us.toList → VR φ w (.yld yb) (.func (.yield l) #[] #[]) →
    ∃ f tmps assign body, (Instr.yield l us).run P w = .ok (.round l f tmps assign body) w ∧ RoundIn F (n - 1) P l f tmps assign body w (fun e w' => ∃ v φ', e = .returned v ∧ Step base φ h w φ' r.2 w' ∧ VR φ' w' r.1 v)
theorem noYield_ok : YieldOk P base F n glob yb LI noYield := by
  intro xs h r e
  cases e
theorem notDefer {ρ : Rho} {o : Oper} {r : ANext} (e : aop P ρ h o = some r) : ∀ c, o.op ≠ .defer c := by
  intro c hc
  unfold aop aopY aop0 opA aopX lanesA pureL at e
  simp only [hc, oNone] at e
  cases e
/-- what is left to be shown behind a piece of code, where the loop's record is looked after -/
def AfterI (base : Nat) (N : Nat) (LI : Emb → Heap → World → Prop) (φ : Emb) (h : Heap) (w : World) (ds : List Deferred) (st' : St) (K : Act → World → Prop) : Prop :=
  ∀ φ' w' a', Step base φ h w φ' st'.h w' → LI φ' st'.h w' → FR N φ' w' st'.fr a' → a'.defers = ds → K a' w'
theorem AfterI.step {ds : List Deferred} {st' : St} {K : Act → World → Prop} (H : HR base φ h w) (k : AfterI base N LI φ h w ds st' K) (s : Step base φ h w φ' h' w') : AfterI base N LI φ' h' w' ds st' K :=
  fun φ'' w'' a' t q f d => k φ'' w'' a' (s.trans H t) q f d
variable (hF : ∀ f, F.fn f) (hd : F.depth = none) (hlift : ∀ {g : Nat} {us : Array Value} {w : World} {R : Ending → World → Prop}, Calls P g us w R → CallsIn F (n - 1) P g us w R) (hc : CallOk P base glob call) (hy : YieldOk P base F n glob yb LI yc) (hLI : ∀ {φ h w φ' h' w'}, HR base φ h w → Step base φ h w φ' h' w' → LI φ h w → LI φ' h' w')
include hF hd hlift hc hy hLI
theorem stepI_ok {Q : Exit → Act → World → Prop} {ops : Array Oper} {i : Nat} {o : Oper} {st st' : St} {a : Act} (hi : ops[i]? = some o)
    (H : HR base φ st.h w) (G : GlobOk glob φ w) (q : LI φ st.h w) (f : FR N φ w st.fr a) (e : stepI P glob call yb yc N ops st o = some st') {K : Act → World → Prop} (k : AfterI base N LI φ st.h w a.defers st' K) : wpOpIn F n P ops Q i K a w := by
  unfold stepI at e
  unfold wpOpIn
  simp only [hi]
  have skipped : Region.wanted o (yielded ops a.tmps) = false → (putA N st.fr o.dst .u).map (mkSt st.h) = some st' → (∀ f, o.about P w a.eval = some f → F.fn f) ∧ K (a.put o.dst undef) w := by
    intro _ e
    simp only [Option.map_eq_some_iff] at e
    obtain ⟨fr', hp, rfl⟩ := e
    exact ⟨fun f _ => hF f, k φ w _ (Step.refl H) q (f.put .u hp) (put_defers _ _ _)⟩
  split at e
  · -- the loop's own function
    rename_i xs hxs
    cases hgl : guardLive ops st.fr o with
    | false => rw [hgl] at e; cases e
    | true =>
    rw [hgl, cond_true, want_ok f ops o hgl] at e
    cases hw : Region.wanted o (yielded ops a.tmps) with
    | false =>
      rw [hw, cond_false] at e
      rw [if_neg (by decide)]
      exact skipped hw e
    | true =>
      rw [hw, cond_true] at e
      rw [if_pos rfl]
      refine ⟨fun f _ => hF f, ?_⟩
      unfold yieldArgs at hxs
      split at hxs
      case h_2 => cases hxs
      rename_i c ho
      split at hxs
      case h_2 => cases hxs
      rename_i x hcal
      split at hxs
      case h_2 => cases hxs
      rename_i b hx
      cases hb : Nat.beq b yb with
      | false => rw [hb] at hxs; cases hxs
      | true =>
      rw [hb, cond_true] at hxs
      have hbe := Nat.eq_of_beq_eq_true hb
      subst hbe
      have hargs := args_all2 (fun x v hx => f.eval G.at1 x v hx) c.args hxs
      have hfv := f.eval G.at1 _ _ hx
      simp only [Option.bind_eq_some_iff, Option.map_eq_some_iff] at e
      obtain ⟨r, hr, fr', hp, rfl⟩ := e
      rw [Oper.semAt_eq F.round a.eval o (by intro c' hc'; rw [ho] at hc'; cases hc')]
      generalize hfe : a.eval x = fv at hfv
      have hfv0 := hfv
      cases hfv with
      | yld _ cl hcl =>
      obtain ⟨rf, tmps, assign, body, y1, y2⟩ := hy xs st.h r hr φ w (c.args.map a.eval) cl.cb H G q hargs hfv0
      have hexec : (execOp a.eval o).run P w = .ok (.round cl.cb rf tmps assign body) w := by
        unfold execOp
        rw [ho]
        simp only [resolve, hcal, hfe]
        simp only [Sem.run_bind, Deferred.ofValue, invoke, Sem.run_pure, Result.andThen_ok]
        simpa using y1
      rw [hexec, Oper.uponIn_round]
      refine ⟨(fun z => by rw [hd] at z; cases z), y2.mono ?_⟩
      rintro _ w' ⟨v, φ', rfl, s, hv⟩
      exact k φ' w' _ s (hLI H s q) ((f.mono s).put hv hp) (put_defers _ _ _)
  · unfold stepA at e
    cases hgl : guardLive ops st.fr o with
    | false => rw [hgl] at e; cases e
    | true =>
    rw [hgl, cond_true, want_ok f ops o hgl] at e
    cases hw : Region.wanted o (yielded ops a.tmps) with
    | false =>
      rw [hw, cond_false] at e
      rw [if_neg (by decide)]
      exact skipped hw e
    | true =>
      rw [hw, cond_true] at e
      rw [if_pos rfl]
      simp only [Option.bind_eq_some_iff] at e
      obtain ⟨r, hr, e⟩ := e
      have nn := op_ok H (fun x v hx => f.eval G.at1 x v hx) hr
      refine ⟨fun f _ => hF f, ?_⟩
      rw [Oper.semAt_eq F.round a.eval o (notDefer hr)]
      unfold afterA at e
      cases r with
      | val v h1 =>
        obtain ⟨φ', w', u, q1, q2, q3⟩ := nn
        rw [q1, Oper.uponIn_value]
        simp only [Option.map_eq_some_iff] at e
        obtain ⟨fr', hp, rfl⟩ := e
        exact k φ' w' _ q2 (hLI H q2 q) ((f.mono q2).put q3 hp) (put_defers _ _ _)
      | skip h1 =>
        obtain ⟨φ', w', q1, q2⟩ := nn
        rw [q1, Oper.uponIn_skip]
        simp only [Option.map_eq_some_iff] at e
        obtain ⟨fr', hp, rfl⟩ := e
        exact k φ' w' _ q2 (hLI H q2 q) ((f.mono q2).put .u hp) (put_defers _ _ _)
      | enter g xs =>
        obtain ⟨us, q1, q2⟩ := nn
        simp only [Option.bind_eq_some_iff] at e
        obtain ⟨r, hr, e⟩ := e
        simp only [Option.map_eq_some_iff] at e
        obtain ⟨fr', hp, rfl⟩ := e
        rcases hc g xs st.h r hr φ w us H G q2 with ⟨c1, c2⟩ | ⟨v, φ', w', c1, s, hv⟩
        case inr =>
          rw [q1, c1, Oper.uponIn_value]
          exact k φ' w' _ s (hLI H s q) ((f.mono s).put hv hp) (put_defers _ _ _)
        rw [q1, c1, Oper.uponIn_enter]
        refine ⟨(fun z => by rw [hd] at z; cases z), ?_⟩
        have c3 : CallsIn F (n - 1) P g us w _ := hlift c2
        refine c3.mono ?_
        rintro _ w' ⟨v, φ', rfl, s, hv⟩
        exact k φ' w' _ s (hLI H s q) ((f.mono s).put hv hp) (put_defers _ _ _)
theorem opsI_ok {Q : Exit → Act → World → Prop} {ops : Array Oper} : ∀ {il : List Nat} {os : List Oper}, All2 (fun i o => ops[i]? = some o) il os → ∀ {φ : Emb} {w : World} {st st' : St} {a : Act},
    HR base φ st.h w → GlobOk glob φ w → LI φ st.h w → FR N φ w st.fr a → opsI P glob call yb yc N ops os st = some st' → AfterI base N LI φ st.h w a.defers st' (Q .normal) → wpOpsIn F n P ops Q il a w
  | [], _, .nil, φ, w, st, st', a, H, G, q, f, e, k => by
    simp only [opsI, Option.some.injEq] at e
    subst e
    exact k φ w a (Step.refl H) q f rfl
  | i :: il, _, .cons (b := o) (m := os) hi t, φ, w, st, st', a, H, G, q, f, e, k => by
    simp only [opsI, Option.bind_eq_some_iff] at e
    obtain ⟨st1, e1, e2⟩ := e
    rw [wpOpsIn_cons]
    refine stepI_ok hF hd hlift hc hy hLI hi H G q f e1 ?_
    intro φ' w' a' s q' f' d
    exact opsI_ok t s.hr (G.step s) q' f' e2 (d ▸ k.step H s)
theorem codeI_ok (L : Nat) (c : Code) : ∀ {Q : Exit → Act → World → Prop} {φ : Emb} {w : World} {st st' : St} {x : AEx} {a : Act},
    HR base φ st.h w → GlobOk glob φ w → LI φ st.h w → FR N φ w st.fr a → codeI P glob call yb yc L N c st = some (x, st') → AfterI base N LI φ st.h w a.defers st' (Q (exOf x)) → c.wpIn F n P Q a w := by
  induction c with
  | skip =>
    intro Q φ w st st' x a H G q f e k
    simp only [codeI, Option.some.injEq, Prod.mk.injEq] at e
    obtain ⟨rfl, rfl⟩ := e
    exact wpIn_skip (k φ w a (Step.refl H) q f rfl)
  | label l =>
    intro Q φ w st st' x a H G q f e k
    simp only [codeI, Option.some.injEq, Prod.mk.injEq] at e
    obtain ⟨rfl, rfl⟩ := e
    exact wpIn_label (k φ w a (Step.refl H) q f rfl)
  | exit id =>
    intro Q φ w st st' x a H G q f e k
    simp only [codeI, Option.some.injEq, Prod.mk.injEq] at e
    obtain ⟨rfl, rfl⟩ := e
    exact wpIn_exit (k φ w a (Step.refl H) q f rfl)
  | ret =>
    intro Q φ w st st' x a H G q f e k
    simp only [codeI, Option.some.injEq, Prod.mk.injEq] at e
    obtain ⟨rfl, rfl⟩ := e
    exact wpIn_ret (k φ w a (Step.refl H) q f rfl)
  | region id ops d =>
    intro Q φ w st st' x a H G q f e k
    simp only [codeI] at e
    cases d with
    | true => simp at e
    | false =>
    simp only [Bool.false_eq_true, if_false, Option.map_eq_some_iff, Prod.mk.injEq] at e
    obtain ⟨st1, e1, rfl, rfl⟩ := e
    exact wpIn_region (opsI_ok hF hd hlift hc hy hLI (range_all ops) H G q f e1 k)
  | seq c1 c2 ih1 ih2 =>
    intro Q φ w st st' x a H G q f e k
    simp only [codeI, Option.bind_eq_some_iff] at e
    obtain ⟨⟨y, st1⟩, e1, e2⟩ := e
    refine wpIn_seq (ih1 H G q f e1 ?_)
    intro φ' w' a' s q' f' d
    cases y with
    | normal => exact ih2 s.hr (G.step s) q' f' e2 (d ▸ k.step H s)
    | exit id => simp only [Option.some.injEq, Prod.mk.injEq] at e2; obtain ⟨rfl, rfl⟩ := e2; exact k φ' w' a' s q' f' d
    | ret => simp only [Option.some.injEq, Prod.mk.injEq] at e2; obtain ⟨rfl, rfl⟩ := e2; exact k φ' w' a' s q' f' d
  | cond c c1 c2 ih1 ih2 =>
    intro Q φ w st st' x a H G q f e k
    simp only [codeI, Option.bind_eq_some_iff] at e
    obtain ⟨v, hv0, e⟩ := e
    have hv := f.eval G.at1 _ _ hv0
    clear hv0
    split at e
    · refine wpIn_cond (t := true) ?_ (ih1 H G q f e k)
      generalize a.eval c = u at hv
      cases hv; rfl
    · refine wpIn_cond (t := false) ?_ (ih2 H G q f e k)
      generalize a.eval c = u at hv
      cases hv; rfl
    · cases e
  | block id c ih =>
    intro Q φ w st st' x a H G q f e k
    simp only [codeI, Option.map_eq_some_iff] at e
    obtain ⟨⟨y, st1⟩, e1, e2⟩ := e
    refine wpIn_block (ih H G q f e1 ?_)
    intro φ' w' a' s q' f' d
    cases y with
    | normal => cases e2; exact k φ' w' a' s q' f' d
    | ret => cases e2; exact k φ' w' a' s q' f' d
    | exit id' =>
      simp only [exOf, Exit.inBlock]
      simp only at e2
      split at e2
      · rename_i z; cases e2; rw [if_pos z]; exact k φ' w' a' s q' f' d
      · rename_i z; cases e2; rw [if_neg z]; exact k φ' w' a' s q' f' d
  | loop c ih =>
    intro Q φ w st st' x a H G q f e k
    simp only [codeI] at e
    have key : ∀ m {φ : Emb} {w : World} {st : St} {a : Act}, HR base φ st.h w → GlobOk glob φ w → LI φ st.h w → FR N φ w st.fr a → iterA (codeI P glob call yb yc L N c) m st = some (x, st') → AfterI base N LI φ st.h w a.defers st' (Q (exOf x)) → Code.roundsIn F n P c Q m a w := by
      intro m
      induction m with
      | zero => intro φ w st a H G q f e; simp [iterA] at e
      | succ m ihn =>
        intro φ w st a H G q f e k
        simp only [iterA, Option.bind_eq_some_iff] at e
        obtain ⟨⟨y, st1⟩, e1, e2⟩ := e
        refine ih H G q f e1 ?_
        intro φ' w' a' s q' f' d
        cases y with
        | normal => exact ihn s.hr (G.step s) q' f' e2 (d ▸ k.step H s)
        | exit id => simp only [Option.some.injEq, Prod.mk.injEq] at e2; obtain ⟨rfl, rfl⟩ := e2; exact k φ' w' a' s q' f' d
        | ret => simp only [Option.some.injEq, Prod.mk.injEq] at e2; obtain ⟨rfl, rfl⟩ := e2; exact k φ' w' a' s q' f' d
    exact wpIn_loop_rounds L (key L H G q f e k)
  | rangeFunc => intro Q φ w st st' x a H G q f e k; simp [codeI] at e
  | scope => intro Q φ w st st' x a H G q f e k; simp [codeI] at e
  | goto => intro Q φ w st st' x a H G q f e k; simp [codeI] at e
  | refuse => intro Q φ w st st' x a H G q f e k; simp [codeI] at e
end
/-! the loop's record, and the blocks that no object knows -/
theorem putObj_rows {L : Nat} {o o' : Obj} (hl : w.heap[L]? = some o) (no : o.isCells = false) : Rows w (w.putObj L o') := by
  rintro cb n ⟨arr, t, fz, q1, q2, q3⟩
  refine ⟨arr, t, fz, ?_, q2, q3⟩
  rw [World.putObj_heap_other, q1]
  rintro rfl
  rw [hl] at q1
  cases q1
  cases no
theorem HR.putObj {L : Nat} {o o' : Obj} (H : HR base φ h w) (hu : ∀ b g c, φ b g = some c → wr (h.objs.get b) = true → c.cb ≠ L) (hl : w.heap[L]? = some o) (no : o.isCells = false) : HR base φ h (w.putObj L o') := by
  have hrows := putObj_rows (o' := o') hl no
  refine ⟨H.fresh, by simpa using H.low, fun b g c e => by simpa using H.range b g c e, H.inj, H.los, ?_, ?_⟩
  · intro b ro gen cs g c e1 e2
    obtain ⟨p1, p2, p3, arr, t, fz, pa, pf, pk⟩ := H.cells b ro gen cs g c e1 e2
    have hcl : c.cb ≠ L := by
      rintro rfl
      rw [hl] at pa
      cases pa
      cases no
    refine ⟨p1, p2, p3, arr, t, fz, by rw [World.putObj_heap_other hcl]; exact pa, pf, ?_⟩
    intro i lo v hi hle hao hie
    obtain ⟨u, q1, q2, q3⟩ := pk i lo v hi hle hao hie
    exact ⟨u, q1, q2.mono (Ext.refl _) hrows, q3⟩
  · intro b x g c e1 hx e2
    obtain ⟨p1, p0, ob, p2, p3⟩ := H.other b x g c e1 hx e2
    exact ⟨p1, p0, ob, by rw [World.putObj_heap_other (hu b g c e2 (by rw [e1]; exact wr_other hx))]; exact p2, p3.mono (Ext.refl _) hrows⟩
/-- a block that the memory knows no object of is turned, and was not there at the step's start -/
theorem Step.putObj {L : Nat} {o o' : Obj} (H : HR base φ h w) (s : Step base φ h w φ' h' w') (hL : w.heap.size ≤ L) (hu : ∀ b g c, φ' b g = some c → wr (h'.objs.get b) = true → c.cb ≠ L) (hl : w'.heap[L]? = some o) (no : o.isCells = false) : Step base φ h w φ' h' (w'.putObj L o') := by
  refine ⟨⟨s.hr.putObj hu hl no, s.ext, s.rows.trans (putObj_rows hl no), ⟨s.kept.os, s.kept.tape, s.kept.output, by simpa using s.kept.size, ?_⟩, s.newer, s.next, s.known⟩, ?_⟩
  · intro cb hcb hk
    rw [World.putObj_heap_other (by omega)]
    exact s.kept.block cb hcb hk
  · intro b m n cur g c e1 e2
    have := H.range b g c e2
    obtain ⟨q1, q2⟩ := s.its b m n cur g c e1 e2
    exact ⟨by rw [World.putObj_heap_other (by omega)]; exact q1, q2⟩
theorem FR.rows {N : Nat} {fr : Fr} {a : Act} (f : FR N φ w fr a) (hr : Rows w w') : FR N φ w' fr a :=
  ⟨f.size, fun t q => (f.get t q).imp id fun k => k.mono (Ext.refl _) hr, f.out⟩
theorem GlobOk.put {glob : Nat → Option AV} {L : Nat} {o : Obj} (g : GlobOk glob φ w) (hr : Rows w (w.putObj L o)) (hl : ∃ b g c, φ b g = some c ∧ c.cb = L) : GlobOk glob φ (w.putObj L o) :=
  ⟨fun x v e => (g.at1 x v e).mono (Ext.refl _) hr, fun p hp => ⟨by
    obtain ⟨b, k, c, e1, e2⟩ := hl
    have := (g.stat p hp).2 b k c e1
    rw [World.putObj_heap_other (by omega)]
    exact (g.stat p hp).1, (g.stat p hp).2⟩⟩
/-- what is known of a loop under way: its record, the block for deferred calls, the frame that it was come to with -/
structure LIof (L D b0 : Nat) (rec : Loop) (N : Nat) (fr0 : Fr) (φ : Emb) (h : Heap) (w : World) : Prop where
  at0 : ∃ c0, φ b0 0 = some c0 ∧ c0.cb = L
  lt : b0 < h.next
  non : wr (h.objs.get b0) = false
  rc : w.heap[L]? = some (.loop rec)
  df : w.heap[D]? = some (.deferred (some []))
  un : ∀ b g c, φ b g = some c → c.cb ≠ D
  fr : FR N φ w fr0 { tmps := rec.tmps, defers := [] }
section
variable {L D b0 : Nat} {rec rec' : Loop} {N : Nat} {fr0 : Fr}
theorem LIof.unk (q : LIof L D b0 rec N fr0 φ h w) (H : HR base φ h w) : ∀ b g c, φ b g = some c → wr (h.objs.get b) = true → c.cb ≠ L := by
  rintro b g c e1 e2 e3
  obtain ⟨c0, z1, z2⟩ := q.at0
  have := (H.inj b g c b0 0 c0 e1 z1 (by rw [e3, z2])).1
  subst this
  rw [q.non] at e2
  cases e2
theorem lt_of_get {cb : Nat} {o : Obj} (e : w.heap[cb]? = some o) : cb < w.heap.size := (Array.getElem?_eq_some_iff.1 e).1
theorem LIof.step (q : LIof L D b0 rec N fr0 φ h w) (H : HR base φ h w) (s : Step base φ h w φ' h' w') : LIof L D b0 rec N fr0 φ' h' w' := by
  obtain ⟨c0, z1, z2⟩ := q.at0
  refine ⟨⟨c0, s.ext _ _ _ z1, z2⟩, Nat.lt_of_lt_of_le q.lt s.next, ?_, ?_, ?_, ?_, q.fr.mono s⟩
  · cases e : wr (h'.objs.get b0) with
    | false => rfl
    | true =>
      have := s.known b0 q.lt e
      rw [q.non] at this
      cases this
  · rw [s.kept.block L (lt_of_get q.rc) (q.unk H)]; exact q.rc
  · rw [s.kept.block D (lt_of_get q.df) fun b g c e _ => q.un b g c e]; exact q.df
  · rintro b g c e rfl
    obtain ⟨g0, c1, y1, y2⟩ := s.newer b g c e (lt_of_get q.df)
    exact q.un b g0 c1 y1 y2
theorem LIof.put (q : LIof L D b0 rec N fr0 φ h w) (ht : rec'.tmps = rec.tmps) : LIof L D b0 rec' N fr0 φ h (w.putObj L (.loop rec')) := by
  have hne : D ≠ L := by
    rintro rfl
    have := q.df
    rw [q.rc] at this
    cases this
  refine ⟨q.at0, q.lt, q.non, World.putObj_heap_same (lt_of_get q.rc), (World.putObj_heap_other hne).trans q.df, q.un, ?_⟩
  rw [ht]
  exact q.fr.rows (putObj_rows q.rc rfl)
/-- a round: the record turns, and turns back -/
theorem LIof.round (q : LIof L D b0 rec N fr0 φ h w) (H : HR base φ h w) (s : Step base φ h (w.putObj L (.loop rec')) φ' h' w') (ht : rec'.tmps = rec.tmps) :
    w'.heap[L]? = some (.loop rec') ∧ Step base φ h w φ' h' (w'.putObj L (.loop rec)) := by
  have q2 := q.put ht
  have H2 : HR base φ h (w.putObj L (.loop rec')) := H.putObj (q.unk H) q.rc rfl
  have q3 := q2.step H2 s
  have hun := q3.unk s.hr
  refine ⟨q3.rc, ⟨⟨s.hr.putObj hun q3.rc rfl, s.ext, ((putObj_rows q.rc rfl).trans s.rows).trans (putObj_rows q3.rc rfl), ⟨s.kept.os, s.kept.tape, s.kept.output, by simpa using s.kept.size, ?_⟩, ?_, s.next, s.known⟩, ?_⟩⟩
  · intro cb hcb hk
    by_cases e : cb = L
    · subst e
      rw [World.putObj_heap_same (lt_of_get q3.rc)]; exact q.rc.symm
    · rw [World.putObj_heap_other e, s.kept.block cb (by simpa using hcb) hk, World.putObj_heap_other e]
  · intro b g c e hc
    exact s.newer b g c e (by simpa using hc)
  · intro b m n cur g c e1 e2
    have hne : c.cb ≠ L := q.unk H b g c e2 (by rw [e1]; rfl)
    obtain ⟨y1, y2⟩ := s.its b m n cur g c e1 e2
    exact ⟨by rw [World.putObj_heap_other hne, y1, World.putObj_heap_other hne], y2⟩
end
theorem putAll_ok {N : Nat} : ∀ {ts : List Tmp} {xs : List AV} {us : List Value} {fr fr' : Fr} {a : Act}, putAll N fr ts xs = some fr' → All2 (VR φ w) xs us → FR N φ w fr a →
    ts.length = us.length ∧ FR N φ w fr' { tmps := (ts.zip us).foldl (fun tmps z => tmps.setIfInBounds z.1 z.2) a.tmps, defers := a.defers }
  | [], _, _, fr, fr', a, e, .nil, f => by
    simp only [putAll, Option.some.injEq] at e
    subst e
    exact ⟨rfl, f⟩
  | t :: ts, _, _, fr, fr', a, e, .nil, f => by simp [putAll] at e
  | [], _, _, fr, fr', a, e, .cons _ _, f => by simp [putAll] at e
  | t :: ts, x :: _, u :: _, fr, fr', a, e, .cons hx hxs, f => by
    simp only [putAll, Option.bind_eq_some_iff] at e
    obtain ⟨f1, e1, e2⟩ := e
    obtain ⟨z1, z2⟩ := putAll_ok e2 hxs (f.put hx e1)
    exact ⟨by simp [z1], z2⟩
theorem wide_lift {g n : Nat} {us : Array Value} {R : Ending → World → Prop} (h : Calls P g us w R) : CallsIn Fence.wide n P g us w R := callsIn_wide.2 h
theorem round_lift {g n l : Nat} {us : Array Value} {R : Ending → World → Prop} (h : Calls P g us w R) : CallsIn (Fence.wide.inRound l) n P g us w R := CallsIn.inRound l (callsIn_wide.2 h)
section
variable {glob : Nat → Option AV} {call : Nat → List AV → Heap → Option (AV × Heap)} {N n : Nat} {L D b0 : Nat} {fr0 : Fr}
/-- a round does what the machine's round does -/
theorem roundF_ok (hc : CallOk P base glob call) {fn : FuncId} {tmps : Array Value} {ps : Array Tmp} {assign body : Code} {LL : Nat} :
    YieldOk P base Fence.wide n glob b0 (LIof L D b0 { state := .ready, pending := none, fn := fn, tmps := tmps, params := ps, assign := assign, body := body, defers := D } N fr0) (roundA P glob call LL N ps assign body fr0) := by
  intro xs h r e φ w us l H G q hargs hv
  cases hv with
  | yld _ c hcl =>
  obtain ⟨c0, z1, z2⟩ := q.at0
  rw [hcl] at z1
  cases z1
  unfold roundA at e
  simp only [Option.bind_eq_some_iff] at e
  obtain ⟨fr, hfr, ⟨x1, st1⟩, e1, e⟩ := e
  cases x1 with
  | exit _ => cases e
  | ret => cases e
  | normal =>
  simp only [Option.bind_eq_some_iff] at e
  obtain ⟨⟨x2, st2⟩, e2, e⟩ := e
  cases x2 with
  | exit _ => cases e
  | ret => cases e
  | normal =>
  simp only [Option.some.injEq] at e
  subst e
  obtain ⟨y1, y2⟩ := putAll_ok hfr hargs q.fr
  have hsz : us.size = ps.size := by rw [← Array.length_toList, ← Array.length_toList]; exact y1.symm
  have hq := q.rc
  rw [← z2] at hq
  have hy := run_yield (P := P) (args := us) hq hsz
  refine ⟨fn, _, assign, body, hy, roundIn_of_wpIn trivial ?_⟩
  have hf1 : FR N φ w fr { tmps := (ps.zip us).foldl (fun tmps (t, a) => tmps.setIfInBounds t a) tmps, defers := [] } := by
    have : (ps.zip us).foldl (fun tmps (z : Tmp × Value) => tmps.setIfInBounds z.1 z.2) tmps = (ps.toList.zip us.toList).foldl (fun tmps z => tmps.setIfInBounds z.1 z.2) tmps := by
      rw [← Array.foldl_toList, Array.toList_zip]
    show FR N φ w fr { tmps := (ps.zip us).foldl (fun tmps (z : Tmp × Value) => tmps.setIfInBounds z.1 z.2) tmps, defers := [] }
    rw [this]
    exact y2
  refine codeI_ok (st := ⟨fr, h⟩) (F := Fence.wide.inRound c.cb) (yb := 0) (yc := noYield) (LI := LIof L D b0 { state := .ready, pending := none, fn := fn, tmps := tmps, params := ps, assign := assign, body := body, defers := D } N fr0) (fun _ => trivial) rfl round_lift hc noYield_ok (fun H s q => q.step H s) LL assign H G q hf1 e1 ?_
  intro φ1 w1 a1 s1 q1 f1 d1
  show ∃ w₂, _ ∧ _
  have hr1 := q1.rc
  rw [← z2] at hr1
  refine ⟨_, run_beginRound hr1 rfl, ?_⟩
  rw [z2]
  have q1b := q1.put (rec' := { state := .busy, pending := none, fn := fn, tmps := tmps, params := ps, assign := assign, body := body, defers := D }) rfl
  have H1b := s1.hr.putObj (o' := .loop { state := .busy, pending := none, fn := fn, tmps := tmps, params := ps, assign := assign, body := body, defers := D }) (q1.unk s1.hr) q1.rc rfl
  have rows1 := putObj_rows (o' := .loop { state := .busy, pending := none, fn := fn, tmps := tmps, params := ps, assign := assign, body := body, defers := D }) q1.rc rfl
  refine codeI_ok (F := Fence.wide.inRound L) (yb := 0) (yc := noYield) (LI := LIof L D b0 { state := .busy, pending := none, fn := fn, tmps := tmps, params := ps, assign := assign, body := body, defers := D } N fr0) (fun _ => trivial) rfl round_lift hc noYield_ok (fun H s q => q.step H s) LL body H1b ((G.step s1).put rows1 (by obtain ⟨c1, y1, y2⟩ := q1.at0; exact ⟨b0, 0, c1, y1, y2⟩)) q1b (f1.rows rows1) e2 ?_
  intro φ2 w2 a2 s2 q2 f2 d2
  obtain ⟨r1, r2⟩ := q1.round s1.hr s2 rfl
  show ∃ v w', _ ∧ _
  exact ⟨_, _, run_endRound none r1, _, φ2, rfl, s1.trans H r2, .bool true⟩
end
/-- the function that is ranged over -/
theorem funcI_ok {glob : Nat → Option AV} {call : Nat → List AV → Heap → Option (AV × Heap)} {n yb : Nat} {yc : YieldT} {LI : Emb → Heap → World → Prop} (hc : CallOk P base glob call) (hy : YieldOk P base Fence.wide n glob yb LI yc)
    (hLI : ∀ {φ h w φ' h' w'}, HR base φ h w → Step base φ h w φ' h' w' → LI φ h w → LI φ' h' w') {LL f : Nat} {args : List AV} {us : Array Value} {r : AV × Heap}
    (H : HR base φ h w) (G : GlobOk glob φ w) (q : LI φ h w) (hl : All2 (VR φ w) args us.toList) (e : funcI P glob call yb yc LL f args h = some r) :
    (∃ fn c, P.funcs[f]? = some fn ∧ fn.body = some c) ∧ CallsIn Fence.wide n P f us w (fun e w' => ∃ v φ', e = .returned v ∧ Step base φ h w φ' r.2 w' ∧ LI φ' r.2 w' ∧ VR φ' w' r.1 v) := by
  unfold funcI at e
  simp only [Option.bind_eq_some_iff] at e
  obtain ⟨fn, hf, e⟩ := e
  cases hb : fn.body with
  | none => rw [hb] at e; cases e
  | some c =>
  rw [hb] at e
  simp only [Option.bind_eq_some_iff] at e
  obtain ⟨fr, hfr, ⟨x, st⟩, hx, e⟩ := e
  split at hx
  case isFalse => cases hx
  rename_i hn
  refine ⟨⟨fn, c, hf, hb⟩, ?_⟩
  have F := FR.start (N := fn.ntmps) hfr hl hn
  refine callsIn_of_wp hf hb trivial (codeI_ok (F := Fence.wide) (fun _ => trivial) rfl wide_lift hc hy hLI LL c (st := ⟨fr, h⟩) H G q F hx ?_)
  intro φ' w' a' s q' f' d
  simp only at d
  have fin : ∀ vs, mapO (resA P st.h st.fr) fn.results.toList = some vs → r = ((tupA vs), st.h) → a'.defers = [] ∧ ∃ v, (results fn a'.tmps).run P w' = .ok v w' ∧ (∃ v1 φ', Ending.returned v = .returned v1 ∧ Step base φ h w φ' r.2 w' ∧ LI φ' r.2 w' ∧ VR φ' w' r.1 v1) := by
    intro vs hvs hr
    obtain ⟨u, q1, q2⟩ := results_ok s.hr f' hvs
    subst hr
    exact ⟨d, u, q1, u, φ', rfl, s, q', q2⟩
  unfold outA at e
  cases x with
  | normal =>
    simp only [Option.map_eq_some_iff] at e
    obtain ⟨vs, hvs, rfl⟩ := e
    exact fin vs hvs rfl
  | ret =>
    simp only [Option.map_eq_some_iff] at e
    obtain ⟨vs, hvs, rfl⟩ := e
    exact fin vs hvs rfl
  | exit id => cases e
/-- two blocks more, of which the memory knows the second, by a name of its own -/
theorem lay_ok (H : HR base φ h w) (o o' : Obj) : Step base φ h w (addE φ h.next 0 ⟨w.heap.size + 1, 0, 0, 0⟩) ⟨h.next + 1, h.objs⟩ ((w.alloc o).alloc o') := by
  obtain ⟨f1, f2⟩ := H.fresh h.next (Nat.le_refl _)
  have hget : ∀ k, k < w.heap.size → ((w.alloc o).alloc o').heap[k]? = w.heap[k]? := fun k hk => by
    rw [alloc_get _ _ _ (by rw [World.size_alloc]; omega), alloc_get _ _ _ hk]
  have hsz : ((w.alloc o).alloc o').heap.size = w.heap.size + 2 := by rw [World.size_alloc, World.size_alloc]
  have hext := addE_ext (φ := φ) (b := h.next) (g := 0) (c := ⟨w.heap.size + 1, 0, 0, 0⟩) (f2 0)
  have hrows : Rows w ((w.alloc o).alloc o') := by
    rintro cb n ⟨arr, t, fz, q1, q2, q3⟩
    exact ⟨arr, t, fz, (hget cb (lt_of_get q1)).trans q1, q2, q3⟩
  have old : ∀ b g c, (h.objs.get b).isSome = true → addE φ h.next 0 ⟨w.heap.size + 1, 0, 0, 0⟩ b g = some c → φ b g = some c := by
    intro b g c e1 e2
    unfold addE at e2
    split at e2
    · rename_i z
      obtain ⟨rfl, rfl⟩ := z
      rw [f1] at e1
      cases e1
    · exact e2
  have either : ∀ b g c, addE φ h.next 0 ⟨w.heap.size + 1, 0, 0, 0⟩ b g = some c → φ b g = some c ∨ (b = h.next ∧ g = 0 ∧ c = ⟨w.heap.size + 1, 0, 0, 0⟩) := by
    intro b g c e2
    unfold addE at e2
    split at e2
    · rename_i z
      cases e2
      exact .inr ⟨z.1, z.2, rfl⟩
    · exact .inl e2
  refine ⟨⟨⟨?_, ?_, ?_, ?_, H.los, ?_, ?_⟩, hext, hrows, ⟨rfl, rfl, rfl, by omega, fun cb hcb _ => hget cb hcb⟩, ?_, Nat.le_succ _, fun _ _ q => q⟩, ?_⟩
  · intro b hb
    have hb' : h.next + 1 ≤ b := hb
    obtain ⟨g1, g2⟩ := H.fresh b (by omega)
    refine ⟨g1, fun g => ?_⟩
    unfold addE
    rw [if_neg (by omega)]
    exact g2 g
  · have := H.low; omega
  · intro b g c e
    rcases either b g c e with q | ⟨_, _, rfl⟩
    · have := H.range b g c q; omega
    · show w.heap.size + 1 < _
      omega
  · intro b g c b' g' c' e1 e2 e3
    rcases either b g c e1 with q | ⟨rfl, rfl, rfl⟩ <;> rcases either b' g' c' e2 with q' | ⟨rfl, rfl, rfl⟩
    · exact H.inj _ _ _ _ _ _ q q' e3
    · have := H.range _ _ _ q
      have e3' : c.cb = w.heap.size + 1 := e3
      omega
    · have := H.range _ _ _ q'
      have e3' : w.heap.size + 1 = c'.cb := e3
      omega
    · exact ⟨rfl, rfl, rfl⟩
  · intro b ro gen cs g c e1 e2
    have e2' := old b g c (by show (h.objs.get b).isSome = true; rw [show h.objs.get b = _ from e1]; rfl) e2
    obtain ⟨p1, p2, p3, arr, t, fz, pa, pf, pk⟩ := H.cells b ro gen cs g c e1 e2'
    refine ⟨p1, p2, p3, arr, t, fz, (hget _ (lt_of_get pa)).trans pa, pf, ?_⟩
    intro i lo v hi hle hao hie
    obtain ⟨u, q1, q2, q3⟩ := pk i lo v hi hle hao hie
    exact ⟨u, q1, q2.mono hext hrows, q3⟩
  · intro b x g c e1 hx e2
    have e2' := old b g c (by show (h.objs.get b).isSome = true; rw [show h.objs.get b = _ from e1]; rfl) e2
    obtain ⟨p1, p0, ob, p2, p3⟩ := H.other b x g c e1 hx e2'
    exact ⟨p1, p0, ob, (hget _ (lt_of_get p2)).trans p2, p3.mono hext hrows⟩
  · intro b g c e hc
    rcases either b g c e with q | ⟨rfl, rfl, rfl⟩
    · exact ⟨g, c, q, rfl⟩
    · have hc' : w.heap.size + 1 < w.heap.size := hc
      omega
  · intro b m n cur g c e1 e2
    exact ⟨hget _ (H.range b g c e2), rfl⟩
/-- the marks among an activation's deferred calls -/
def markOf (D : Nat) : Deferred := { target := .collected D, args := #[] }
def Marks (s0 : Nat) (φ : Emb) (w : World) (ds : List Deferred) : Prop :=
  ∃ Ds : List Nat, ds = Ds.map markOf ∧ Ds.Nodup ∧ ∀ D ∈ Ds, s0 ≤ D ∧ w.heap[D]? = some (.deferred (some [])) ∧ ∀ b g c, φ b g = some c → c.cb ≠ D
theorem Marks.step {s0 : Nat} {ds : List Deferred} (m : Marks s0 φ w ds) (s : Step base φ h w φ' h' w') : Marks s0 φ' w' ds := by
  obtain ⟨Ds, m1, m2, m3⟩ := m
  refine ⟨Ds, m1, m2, fun D hD => ?_⟩
  obtain ⟨n1, n2, n3⟩ := m3 D hD
  refine ⟨n1, ?_, ?_⟩
  · rw [s.kept.block D (lt_of_get n2) fun b g c e _ => n3 b g c e]; exact n2
  · rintro b g c e rfl
    obtain ⟨g0, c1, y1, y2⟩ := s.newer b g c e (lt_of_get n2)
    exact n3 b g0 c1 y1 y2
/-- what is left to be shown, where marks may have come to the deferred calls -/
def AfterD (base : Nat) (N s0 : Nat) (φ : Emb) (h : Heap) (w : World) (st' : St) (K : Act → World → Prop) : Prop :=
  ∀ φ' w' a', Step base φ h w φ' st'.h w' → FR N φ' w' st'.fr a' → Marks s0 φ' w' a'.defers → K a' w'
theorem AfterD.step {N s0 : Nat} {st' : St} {K : Act → World → Prop} (H : HR base φ h w) (k : AfterD base N s0 φ h w st' K) (s : Step base φ h w φ' h' w') : AfterD base N s0 φ' h' w' st' K :=
  fun φ'' w'' a' t f d => k φ'' w'' a' (s.trans H t) f d
theorem AfterD.after {N s0 : Nat} {st' : St} {K : Act → World → Prop} {ds : List Deferred} (k : AfterD base N s0 φ h w st' K) (m : Marks s0 φ w ds) : After base N φ h w ds st' K :=
  fun φ'' w'' a' t f d => k φ'' w'' a' t f (by rw [d]; exact m.step t)
section
variable {glob : Nat → Option AV} {call : Nat → List AV → Heap → Option (AV × Heap)} {N s0 : Nat}
theorem range_ok (hp : Plain P) (hc : CallOk P base glob call) {LL : Nat} {g : Operand} {ps : Array Tmp} {assign body : Code} {Q : Exit → Act → World → Prop} {st st' : St} {a : Act}
    (H : HR base φ st.h w) (G : GlobOk glob φ w) (f : FR N φ w st.fr a) (m : Marks s0 φ w a.defers) (hs : s0 ≤ w.heap.size) (e : rangeA P glob call LL N g ps assign body st = some st') (k : AfterD base N s0 φ st.h w st' (Q .normal)) :
    (Code.rangeFunc g ps assign body).wp P Q a w := by
  unfold rangeA at e
  simp only [Option.bind_eq_some_iff] at e
  obtain ⟨v, hv0, e⟩ := e
  have hv := f.eval G.at1 _ _ hv0
  split at e
  case h_2 => cases e
  rename_i gf cs
  simp only [Option.map_eq_some_iff] at e
  obtain ⟨r, hr, rfl⟩ := e
  clear hv0
  generalize hge : a.eval g = gv at hv
  cases hv with
  | func _ _ vs hcs =>
  refine (wpIn_wide (n := 0)).1 (wpIn_rangeFunc ?_)
  intro fn _
  obtain ⟨W1, hW1⟩ : ∃ W1, (w.alloc (.deferred (some []))).alloc (.loop { state := .ready, pending := none, fn, tmps := a.tmps, params := ps, assign, body, defers := w.heap.size }) = W1 := ⟨_, rfl⟩
  have s1 : Step base φ st.h w (addE φ st.h.next 0 ⟨w.heap.size + 1, 0, 0, 0⟩) ⟨st.h.next + 1, st.h.objs⟩ W1 := by rw [← hW1]; exact lay_ok H _ _
  have hL : W1.heap[w.heap.size + 1]? = some (.loop { state := .ready, pending := none, fn, tmps := a.tmps, params := ps, assign, body, defers := w.heap.size }) := by
    rw [← hW1]
    have := World.alloc_heap_new (w.alloc (.deferred (some []))) (.loop { state := .ready, pending := none, fn, tmps := a.tmps, params := ps, assign, body, defers := w.heap.size })
    rwa [World.size_alloc] at this
  have hD : W1.heap[w.heap.size]? = some (.deferred (some [])) := by
    rw [← hW1, alloc_get _ _ _ (by rw [World.size_alloc]; omega)]
    exact World.alloc_heap_new w _
  have q1 : LIof (w.heap.size + 1) w.heap.size st.h.next { state := .ready, pending := none, fn, tmps := a.tmps, params := ps, assign, body, defers := w.heap.size } N st.fr (addE φ st.h.next 0 ⟨w.heap.size + 1, 0, 0, 0⟩) ⟨st.h.next + 1, st.h.objs⟩ W1 := by
    refine ⟨⟨_, addE_same _ _ _ _, rfl⟩, Nat.lt_succ_self _, (by show wr (st.h.objs.get st.h.next) = false; rw [(H.fresh _ (Nat.le_refl _)).1]; rfl), hL, hD, ?_, ?_⟩
    · intro b g' c e
      unfold addE at e
      split at e
      · cases e
        show w.heap.size + 1 ≠ _
        omega
      · have := H.range b g' c e
        omega
    · have := f.mono s1
      exact ⟨this.size, this.get, this.out⟩
  have hargs : All2 (VR (addE φ st.h.next 0 ⟨w.heap.size + 1, 0, 0, 0⟩) W1) (.yld st.h.next :: cs) (#[Value.func (.yield (w.heap.size + 1)) #[] #[]] ++ (⟨vs⟩ : Array Value)).toList := by
    have : (#[Value.func (.yield (w.heap.size + 1)) #[] #[]] ++ (⟨vs⟩ : Array Value)).toList = Value.func (.yield (w.heap.size + 1)) #[] #[] :: vs := by simp
    rw [this]
    exact .cons (.yld st.h.next ⟨w.heap.size + 1, 0, 0, 0⟩ (addE_same _ _ _ _)) (hcs.step s1)
  obtain ⟨⟨fn', c', hf', hb'⟩, hcall⟩ := funcI_ok (n := 0 - 1) hc (roundF_ok (n := 0 - 1) (fn := fn) (tmps := a.tmps) (D := w.heap.size) (L := w.heap.size + 1) (ps := ps) (assign := assign) (body := body) (N := N) (fr0 := st.fr) (LL := LL) hc) (fun H s q => q.step H s) s1.hr (G.step s1) q1 hargs hr
  have hnm : fn'.name ≠ "runtime.NumGoroutine" := by simpa using hp.names gf fn' hf'
  have eg : ∀ args w, (callFunc gf args).run P w = .ok (.enter gf args) w := fun args w => by simp [callFunc, Sem.run_bind, hf', hnm, hb']
  refine ⟨w.heap.size + 1, [{ target := .collected w.heap.size, args := #[] }], W1, { target := .fn (.func gf) ⟨vs⟩, args := #[.func (.yield (w.heap.size + 1)) #[] #[]] }, W1, gf,
    #[.func (.yield (w.heap.size + 1)) #[] #[]] ++ ⟨vs⟩, W1, ?_, ?_, ?_, ?_, (fun z => by cases z), ?_⟩
  · rw [← hW1]; exact run_enterLoop_outer _ _ _ _ _
  · simp only [resolve, hge]
    simp [go_sem]
  · intro f' _; trivial
  · simp [invoke, go_sem, eg]
  · refine hcall.mono ?_
    rintro _ w' ⟨v, φ', rfl, s2, q2, hv2⟩
    refine ⟨none, _, run_endLoop q2.rc (by simp), ?_⟩
    have s3 := (s1.trans H s2).putObj (o' := .loop { state := .exhausted, pending := none, fn, tmps := a.tmps, params := ps, assign, body, defers := w.heap.size }) H (Nat.le_succ _) (q2.unk s2.hr) q2.rc rfl
    refine k φ' _ _ s3 ?_ ?_
    · have := f.mono s3
      exact ⟨this.size, this.get, this.out⟩
    · obtain ⟨Ds, m1, m2, m3⟩ := m
      have m' : Marks s0 φ' _ a.defers := Marks.step ⟨Ds, m1, m2, m3⟩ s3
      refine ⟨w.heap.size :: Ds, ?_, ?_, ?_⟩
      · show markOf w.heap.size :: a.defers = _
        rw [m1]; rfl
      · refine List.nodup_cons.2 ⟨fun z => ?_, m2⟩
        have := lt_of_get (m3 _ z).2.1
        omega
      · intro D' hD'
        rcases List.mem_cons.1 hD' with rfl | z
        · exact ⟨hs, (World.putObj_heap_other (by omega)).trans q2.df, q2.un⟩
        · obtain ⟨n1, n2, n3⟩ := m3 D' z
          refine ⟨n1, ?_, ?_⟩
          · rw [s3.kept.block D' (lt_of_get n2) fun b g c e _ => n3 b g c e]; exact n2
          · rintro b g c e rfl
            obtain ⟨g0, c1, y1, y2⟩ := s3.newer b g c e (lt_of_get n2)
            exact n3 b g0 c1 y1 y2
theorem codeD_ok (hp : Plain P) (hc : CallOk P base glob call) (L : Nat) (c : Code) : ∀ {Q : Exit → Act → World → Prop} {φ : Emb} {w : World} {st st' : St} {x : AEx} {a : Act},
    HR base φ st.h w → GlobOk glob φ w → FR N φ w st.fr a → Marks s0 φ w a.defers → s0 ≤ w.heap.size → codeD P glob call L N c st = some (x, st') → AfterD base N s0 φ st.h w st' (Q (exOf x)) → c.wp P Q a w := by
  induction c with
  | skip =>
    intro Q φ w st st' x a H G f m hs e k
    simp only [codeD, Option.some.injEq, Prod.mk.injEq] at e
    obtain ⟨rfl, rfl⟩ := e
    exact wp_skip (k φ w a (Step.refl H) f m)
  | label l =>
    intro Q φ w st st' x a H G f m hs e k
    simp only [codeD, Option.some.injEq, Prod.mk.injEq] at e
    obtain ⟨rfl, rfl⟩ := e
    exact wp_label (k φ w a (Step.refl H) f m)
  | exit id =>
    intro Q φ w st st' x a H G f m hs e k
    simp only [codeD, Option.some.injEq, Prod.mk.injEq] at e
    obtain ⟨rfl, rfl⟩ := e
    exact wp_exit (k φ w a (Step.refl H) f m)
  | ret =>
    intro Q φ w st st' x a H G f m hs e k
    simp only [codeD, Option.some.injEq, Prod.mk.injEq] at e
    obtain ⟨rfl, rfl⟩ := e
    exact wp_ret (k φ w a (Step.refl H) f m)
  | region id ops d =>
    intro Q φ w st st' x a H G f m hs e k
    simp only [codeD] at e
    cases d with
    | true =>
      simp only [if_true, Option.map_eq_some_iff, Prod.mk.injEq] at e
      obtain ⟨st1, e1, rfl, rfl⟩ := e
      exact any_ok hc hp.mixed H G f e1 (k.after m)
    | false =>
    simp only [Bool.false_eq_true, if_false, Option.map_eq_some_iff, Prod.mk.injEq] at e
    obtain ⟨st1, e1, rfl, rfl⟩ := e
    exact wp_region (ops_ok hc (range_all ops) H G f e1 (k.after m))
  | seq c1 c2 ih1 ih2 =>
    intro Q φ w st st' x a H G f m hs e k
    simp only [codeD, Option.bind_eq_some_iff] at e
    obtain ⟨⟨y, st1⟩, e1, e2⟩ := e
    refine wp_seq (ih1 H G f m hs e1 ?_)
    intro φ' w' a' s f' m'
    cases y with
    | normal => exact ih2 s.hr (G.step s) f' m' (Nat.le_trans hs s.kept.size) e2 (k.step H s)
    | exit id => simp only [Option.some.injEq, Prod.mk.injEq] at e2; obtain ⟨rfl, rfl⟩ := e2; exact k φ' w' a' s f' m'
    | ret => simp only [Option.some.injEq, Prod.mk.injEq] at e2; obtain ⟨rfl, rfl⟩ := e2; exact k φ' w' a' s f' m'
  | cond c c1 c2 ih1 ih2 =>
    intro Q φ w st st' x a H G f m hs e k
    simp only [codeD, Option.bind_eq_some_iff] at e
    obtain ⟨v, hv0, e⟩ := e
    have hv := f.eval G.at1 _ _ hv0
    clear hv0
    split at e
    · refine wp_cond (t := true) ?_ (ih1 H G f m hs e k)
      generalize a.eval c = u at hv
      cases hv; rfl
    · refine wp_cond (t := false) ?_ (ih2 H G f m hs e k)
      generalize a.eval c = u at hv
      cases hv; rfl
    · cases e
  | block id c ih =>
    intro Q φ w st st' x a H G f m hs e k
    simp only [codeD, Option.map_eq_some_iff] at e
    obtain ⟨⟨y, st1⟩, e1, e2⟩ := e
    refine wp_block (ih H G f m hs e1 ?_)
    intro φ' w' a' s f' m'
    cases y with
    | normal => cases e2; exact k φ' w' a' s f' m'
    | ret => cases e2; exact k φ' w' a' s f' m'
    | exit id' =>
      simp only [exOf, Exit.inBlock]
      simp only at e2
      split at e2
      · rename_i q; cases e2; rw [if_pos q]; exact k φ' w' a' s f' m'
      · rename_i q; cases e2; rw [if_neg q]; exact k φ' w' a' s f' m'
  | loop c ih =>
    intro Q φ w st st' x a H G f m hs e k
    simp only [codeD] at e
    have key : ∀ n {φ : Emb} {w : World} {st : St} {a : Act}, HR base φ st.h w → GlobOk glob φ w → FR N φ w st.fr a → Marks s0 φ w a.defers → s0 ≤ w.heap.size → iterA (codeD P glob call L N c) n st = some (x, st') → AfterD base N s0 φ st.h w st' (Q (exOf x)) → Code.rounds P c Q n a w := by
      intro n
      induction n with
      | zero => intro φ w st a H G f m hs e; simp [iterA] at e
      | succ n ihn =>
        intro φ w st a H G f m hs e k
        simp only [iterA, Option.bind_eq_some_iff] at e
        obtain ⟨⟨y, st1⟩, e1, e2⟩ := e
        refine ih H G f m hs e1 ?_
        intro φ' w' a' s f' m'
        cases y with
        | normal => exact ihn s.hr (G.step s) f' m' (Nat.le_trans hs s.kept.size) e2 (k.step H s)
        | exit id => simp only [Option.some.injEq, Prod.mk.injEq] at e2; obtain ⟨rfl, rfl⟩ := e2; exact k φ' w' a' s f' m'
        | ret => simp only [Option.some.injEq, Prod.mk.injEq] at e2; obtain ⟨rfl, rfl⟩ := e2; exact k φ' w' a' s f' m'
    exact wp_loop_rounds L (key L H G f m hs e k)
  | rangeFunc g ps assign body _ _ =>
    intro Q φ w st st' x a H G f m hs e k
    simp only [codeD, Option.map_eq_some_iff, Prod.mk.injEq] at e
    obtain ⟨st1, e1, rfl, rfl⟩ := e
    exact range_ok hp hc H G f m hs e1 k
  | scope => intro Q φ w st st' x a H G f m hs e k; simp [codeD] at e
  | goto => intro Q φ w st st' x a H G f m hs e k; simp [codeD] at e
  | refuse => intro Q φ w st st' x a H G f m hs e k; simp [codeD] at e
end
/-- a function leaves with nothing but marks -/
theorem leaves_ok {N n s0 : Nat} {fr : Fr} {h0 : Heap} {w0 : World} {φ0 : Emb} (hs : w0.heap.size = s0) (H0 : HR base φ0 h0 w0) {fn : Func} {vs : List AV} {a : Act} {R : Ending → World → Prop} (hres : mapO (resA P h fr) fn.results.toList = some vs)
    (hR : ∀ w' u, Step base φ0 h0 w0 φ h w' → VR φ w' (tupA vs) u → R (.returned u) w') : ∀ (Ds : List Nat) (w : World), Ds.Nodup → (∀ D ∈ Ds, s0 ≤ D ∧ w.heap[D]? = some (.deferred (some [])) ∧ ∀ b g c, φ b g = some c → c.cb ≠ D) →
    Step base φ0 h0 w0 φ h w → FR N φ w fr a → LeavesInM Fence.wide n P fn a.tmps R (Ds.map markOf) .returning w
  | [], w, _, _, s, f => by
    obtain ⟨u, q1, q2⟩ := results_ok s.hr f hres
    exact ⟨u, q1, hR w u s q2⟩
  | D :: Ds, w, hn, hm, s, f => by
    obtain ⟨n1, n2, n3⟩ := hm D (by simp)
    obtain ⟨z1, z2⟩ := List.nodup_cons.1 hn
    refine ⟨by simp, .inl ⟨D, _, rfl, run_takeDeferred n2, ?_⟩⟩
    refine leaves_ok hs H0 hres hR Ds _ z2 ?_ (s.putObj H0 (by omega) (fun b g c e _ => n3 b g c e) n2 rfl) (f.rows (putObj_rows n2 rfl))
    intro D' hD'
    obtain ⟨y1, y2, y3⟩ := hm D' (by simp [hD'])
    exact ⟨y1, (World.putObj_heap_other (by rintro rfl; exact z1 hD')).trans y2, y3⟩
end Go.Vai
/- The abstract machine: functions, calls. -/
namespace Go.Vai
set_option linter.unusedVariables false
set_option linter.unusedSimpArgs false
set_option linter.unusedSectionVars false
variable [Lane]
variable {P : Program} {base : Nat} {φ φ' φ'' : Emb} {h h' h'' : Heap} {w w' w'' : World}
theorem func_ok {glob : Nat → Option AV} {call : Nat → List AV → Heap → Option (AV × Heap)} (hp : Plain P) (hc : CallOk P base glob call) (L : Nat) : CallOk P base glob (funcA P glob call L) := by
  intro f args h r e φ w us H G hl
  unfold funcA at e
  simp only [Option.bind_eq_some_iff] at e
  obtain ⟨fn, hf, e⟩ := e
  cases hb : fn.body with
  | none =>
    rw [hb] at e
    obtain ⟨h1, u, h2, h3⟩ := extL_ok (P := P) H hf hb (hp.names f fn hf) hl e
    exact .inr ⟨u, φ, w, h2, by rw [h1]; exact Step.refl H, h3⟩
  | some c =>
  rw [hb] at e
  simp only [Option.bind_eq_some_iff] at e
  obtain ⟨fr, hfr, ⟨x, st⟩, hx, e⟩ := e
  split at hx
  case isFalse => cases hx
  rename_i hn
  have hp' : fn.name ≠ "runtime.NumGoroutine" := by simpa using hp.names f fn hf
  refine .inl ⟨by simp [callFunc, Sem.run_bind, hf, hp', hb], ?_⟩
  have F := FR.start (N := fn.ntmps) hfr hl hn
  cases hr : hasRange c with
  | false =>
    rw [hr, cond_false] at hx
    refine calls_of_wp hf hb (code_ok hc hp.mixed L c (st := ⟨fr, h⟩) H G F hx ?_)
    intro φ' w' a' s f' d
    simp only at d
    have fin : ∀ vs, mapO (resA P st.h st.fr) fn.results.toList = some vs → r = ((tupA vs), st.h) → a'.defers = [] ∧ ∃ v, (results fn a'.tmps).run P w' = .ok v w' ∧ (∃ v1 φ', Ending.returned v = .returned v1 ∧ Step base φ h w φ' r.2 w' ∧ VR φ' w' r.1 v1) := by
      intro vs hvs hr
      obtain ⟨u, q1, q2⟩ := results_ok s.hr f' hvs
      subst hr
      exact ⟨d, u, q1, u, φ', rfl, s, q2⟩
    cases x with
    | normal =>
      simp only [Option.map_eq_some_iff] at e
      obtain ⟨vs, hvs, rfl⟩ := e
      exact fin vs hvs rfl
    | ret =>
      simp only [Option.map_eq_some_iff] at e
      obtain ⟨vs, hvs, rfl⟩ := e
      exact fin vs hvs rfl
    | exit id => cases e
  | true =>
    rw [hr, cond_true] at hx
    refine (callsIn_wide (n := 0)).1 (callsIn_of_wp_marks hf hb trivial (wpIn_wide.2 (codeD_ok (s0 := w.heap.size) hp hc L c (st := ⟨fr, h⟩) H G F ⟨[], rfl, List.nodup_nil, fun _ z => by cases z⟩ (Nat.le_refl _) hx ?_)))
    intro φ' w' a' s f' m
    obtain ⟨Ds, m1, m2, m3⟩ := m
    have fin : ∀ vs, mapO (resA P st.h st.fr) fn.results.toList = some vs → r = ((tupA vs), st.h) → LeavesInM Fence.wide 0 P fn a'.tmps (fun e w' => ∃ v φ', e = .returned v ∧ Step base φ h w φ' r.2 w' ∧ VR φ' w' r.1 v) a'.defers .returning w' := by
      intro vs hvs hr
      subst hr
      rw [m1]
      exact leaves_ok rfl H hvs (fun w'' u s2 hv => ⟨u, φ', rfl, s2, hv⟩) Ds w' m2 m3 s f'
    cases x with
    | normal =>
      simp only [Option.map_eq_some_iff] at e
      obtain ⟨vs, hvs, rfl⟩ := e
      exact fin vs hvs rfl
    | ret =>
      simp only [Option.map_eq_some_iff] at e
      obtain ⟨vs, hvs, rfl⟩ := e
      exact fin vs hvs rfl
    | exit id => cases e
theorem noHook_ok {glob : Nat → Option AV} : CallOk P base glob noHook := fun f args h r e => by simp [noHook] at e
theorem orHook_ok {glob : Nat → Option AV} {x y : HookT} (hx : CallOk P base glob x) (hy : CallOk P base glob y) : CallOk P base glob (fun f args h => orHook (x f args h) (y f args h)) := by
  intro f args h r e
  have e2 : orHook (x f args h) (y f args h) = some r := e
  unfold orHook at e2
  split at e2
  · rename_i r' h'
    exact hx f args h r (h'.trans e2)
  · exact hy f args h r e2
theorem call_ok {glob : Nat → Option AV} {hk : HookT} (hp : Plain P) (hh : CallOk P base glob hk) (L : Nat) : ∀ n, CallOk P base glob (callA P glob hk L n)
  | 0 => fun f args h r e => by simp [callA] at e
  | n + 1 => orHook_ok hh (func_ok hp (call_ok hp hh L n) L)
end Go.Vai
