/- The abstract machine: regions, control, functions. -/
import Derived.Test.YtbndnhkhphkjgaaGreatDoorVai12
namespace Go.Vai
set_option linter.unusedVariables false
set_option linter.unusedSimpArgs false
set_option linter.unusedSectionVars false
variable [Lane]
variable {P : Program} {base : Nat} {φ φ' φ'' : Emb} {h h' h'' : Heap} {w w' w'' : World}

theorem yield_ok {N : Nat} {fr : Fr} {a : Act} (f : FR N φ w fr a) (ops : Array Oper) (j : Nat) (hl : ((ops[j]?).bind (·.dst)).bind fr.get ≠ some .any) (hl2 : ∀ l, ((ops[j]?).bind (·.dst)).bind fr.get ≠ some (.vec l)) : yieldA ops fr j = yielded ops a.tmps j := by
  unfold yieldA yielded
  cases hd : (ops[j]?).bind (·.dst) with
  | none => rfl
  | some d =>
    rw [hd] at hl hl2
    simp only [Option.bind_some] at hl hl2 ⊢
    rcases Nat.lt_or_ge d N with q | q
    · have g0 := f.get d q
      have g : VR φ w ((fr.get d).getD .u) (a.tmps.getD d undef) := by
        rcases g0 with g0 | g0
        · cases hx : fr.get d with
          | none => rw [hx] at g0; cases g0
          | some x => rw [hx] at g0 hl; exact absurd (by rw [← g0]; rfl) hl
        · exact g0
      clear g0
      have e : a.tmps[d]? = some (a.tmps.getD d undef) := by
        rw [Array.getD_eq_getD_getElem?, Array.getElem?_eq_getElem (by rw [f.size]; exact q)]; rfl
      rw [e]
      generalize a.tmps.getD d undef = u at g
      cases hx : fr.get d with
      | none => rw [hx] at g; simp only [Option.getD_none] at g; cases g; rfl
      | some x => rw [hx] at g hl2; simp only [Option.getD_some] at g; cases g <;> first | rfl | (exact absurd rfl (hl2 _))
    · rw [f.out d q, Array.getElem?_eq_none (by rw [f.size]; exact q)]
theorem want_ok {N : Nat} {fr : Fr} {a : Act} (f : FR N φ w fr a) (ops : Array Oper) (o : Oper) (hl : guardLive ops fr o = true) : wantA ops fr o = Region.wanted o (yielded ops a.tmps) := by
  unfold wantA Region.wanted
  unfold guardLive at hl
  cases hg : o.guard with
  | none => rfl
  | some g =>
    obtain ⟨j, want⟩ := g
    rw [hg] at hl
    have hl' : ((ops[j]?).bind (·.dst)).bind fr.get ≠ some .any := by
      intro q
      simp only [q] at hl
      cases hl
    have hl2 : ∀ l, ((ops[j]?).bind (·.dst)).bind fr.get ≠ some (.vec l) := by
      intro l q
      simp only [q] at hl
      cases hl
    simp only [yield_ok f ops j hl' hl2]
    cases yielded ops a.tmps j <;> rfl
theorem put_defers (a : Act) (d : Option Tmp) (v : Value) : (a.put d v).defers = a.defers := by cases d <;> rfl

/-- globals are where the memory has them -/
def StatOk (φ : Emb) (w : World) : Prop := ∀ p ∈ Lane.stat, w.heap[p.1]? = some p.2 ∧ ∀ b g c, φ b g = some c → c.cb ≠ p.1
theorem StatOk.wstep (q : StatOk φ w) (s : WStep base φ h w φ' h' w') : StatOk φ' w' := by
  intro p hp
  obtain ⟨q1, q2⟩ := q p hp
  have hlt : p.1 < w.heap.size := by
    rcases Nat.lt_or_ge p.1 w.heap.size with z | z
    · exact z
    · rw [Array.getElem?_eq_none z] at q1; cases q1
  refine ⟨(s.kept.block p.1 hlt fun b g c e _ => q2 b g c e).trans q1, fun b g c e e2 => ?_⟩
  obtain ⟨g', c', k1, k2⟩ := s.newer b g c e (by rw [e2]; exact hlt)
  exact q2 b g' c' k1 (k2.trans e2)
structure GlobOk (glob : Nat → Option AV) (φ : Emb) (w : World) : Prop where
  at1 : ∀ g v, glob g = some v → VR φ w v (.pointer (some ⟨g, 0, none⟩))
  stat : StatOk φ w
theorem GlobOk.wstep {glob : Nat → Option AV} (g : GlobOk glob φ w) (s : WStep base φ h w φ' h' w') : GlobOk glob φ' w' := ⟨fun x v e => (g.at1 x v e).mono s.ext s.rows, g.stat.wstep s⟩
/-- .. told of the places that were known before -/
theorem GlobOk.ret {glob : Nat → Option AV} (g : GlobOk glob φ w) (s : WStep base φ h w φ' h' w') : GlobOk glob φ w' := ⟨fun x v e => (g.at1 x v e).mono (Ext.refl _) s.rows, fun p hp => ⟨(g.stat.wstep s p hp).1, (g.stat p hp).2⟩⟩
theorem GlobOk.step {glob : Nat → Option AV} (g : GlobOk glob φ w) (s : Step base φ h w φ' h' w') : GlobOk glob φ' w' := g.wstep s.toWStep
/-- a call that the machine answers is one that the model answers, alike -/
def CallOk (P : Program) (base : Nat) (glob : Nat → Option AV) (call : Nat → List AV → Heap → Option (AV × Heap)) : Prop :=
  ∀ f args h r, call f args h = some r → ∀ φ w (us : Array Value), HR base φ h w → GlobOk glob φ w → All2 (VR φ w) args us.toList →
    ((callFunc f us).run P w = .ok (.enter f us) w ∧ Calls P f us w (fun e w' => ∃ v φ', e = .returned v ∧ Step base φ h w φ' r.2 w' ∧ VR φ' w' r.1 v)) ∨
    ∃ v φ' w', (callFunc f us).run P w = .ok (.value v) w' ∧ Step base φ h w φ' r.2 w' ∧ VR φ' w' r.1 v
/-- what is left to be shown behind a piece of code -/
def After (base : Nat) (N : Nat) (φ : Emb) (h : Heap) (w : World) (ds : List Deferred) (st' : St) (K : Act → World → Prop) : Prop :=
  ∀ φ' w' a', Step base φ h w φ' st'.h w' → FR N φ' w' st'.fr a' → a'.defers = ds → K a' w'
theorem After.step {N : Nat} {ds : List Deferred} {st' : St} {K : Act → World → Prop} (H : HR base φ h w) (k : After base N φ h w ds st' K) (s : Step base φ h w φ' h' w') : After base N φ' h' w' ds st' K :=
  fun φ'' w'' a' t f d => k φ'' w'' a' (s.trans H t) f d

section
variable {glob : Nat → Option AV} {call : Nat → List AV → Heap → Option (AV × Heap)} {N : Nat} {Q : Exit → Act → World → Prop}
theorem put_skip {st : St} {st' : St} {a : Act} {dst : Option Tmp} {v : AV} {u : Value} {h1 : Heap} {K : Act → World → Prop} (H : HR base φ h w) (s : Step base φ h w φ' h1 w') (f : FR N φ' w' st.fr a) (hv : VR φ' w' v u)
    (e : (putA N st.fr dst v).map (mkSt h1) = some st') (k : After base N φ h w a.defers st' K) : K (a.put dst u) w' := by
  simp only [Option.map_eq_some_iff] at e
  obtain ⟨fr', hp, rfl⟩ := e
  exact k φ' w' _ s (f.put hv hp) (put_defers _ _ _)
theorem step_ok (hc : CallOk P base glob call) {ops : Array Oper} {i : Nat} {o : Oper} {st st' : St} {a : Act} (hi : ops[i]? = some o)
    (H : HR base φ st.h w) (G : GlobOk glob φ w) (f : FR N φ w st.fr a) (e : stepA P glob call N ops st o = some st') {K : Act → World → Prop} (k : After base N φ st.h w a.defers st' K) : wpOp P ops Q i K a w := by
  unfold stepA at e
  cases hgl : guardLive ops st.fr o with
  | false => rw [hgl] at e; cases e
  | true =>
  rw [hgl, cond_true] at e
  rw [want_ok f ops o hgl] at e
  unfold wpOp
  simp only [hi]
  cases hw : Region.wanted o (yielded ops a.tmps) with
  | false =>
    rw [hw, cond_false] at e
    rw [if_neg (by decide)]
    exact put_skip H (Step.refl H) f .u e k
  | true =>
    rw [hw, cond_true] at e
    rw [if_pos rfl]
    refine .inl ?_
    simp only [Option.bind_eq_some_iff] at e
    obtain ⟨r, hr, e⟩ := e
    have n := op_ok H (fun x v hx => f.eval G.at1 x v hx) hr
    unfold Oper.wp
    unfold afterA at e
    cases r with
    | val v h1 =>
      obtain ⟨φ', w', u, q1, q2, q3⟩ := n
      rw [q1, Oper.upon_value]
      exact put_skip H q2 (f.mono q2) q3 e k
    | skip h1 =>
      obtain ⟨φ', w', q1, q2⟩ := n
      rw [q1, Oper.upon_skip]
      exact put_skip H q2 (f.mono q2) .u e k
    | enter g xs =>
      obtain ⟨us, q1, q2⟩ := n
      simp only [Option.bind_eq_some_iff] at e
      obtain ⟨r, hr, e⟩ := e
      rcases hc g xs st.h r hr φ w us H G q2 with ⟨c1, c2⟩ | ⟨v, φ', w', c1, s, hv⟩
      case inr =>
        rw [q1, c1, Oper.upon_value]
        exact put_skip H s (f.mono s) hv e k
      rw [q1, c1, Oper.upon_enter]
      refine c2.mono ?_
      rintro _ w' ⟨v, φ', rfl, s, hv⟩
      exact put_skip H s (f.mono s) hv e k
theorem ops_ok (hc : CallOk P base glob call) {ops : Array Oper} : ∀ {l : List Nat} {os : List Oper}, All2 (fun i o => ops[i]? = some o) l os → ∀ {φ : Emb} {w : World} {st st' : St} {a : Act},
    HR base φ st.h w → GlobOk glob φ w → FR N φ w st.fr a → opsA P glob call N ops os st = some st' → After base N φ st.h w a.defers st' (Q .normal) → wpOps P ops Q l a w
  | [], _, .nil, φ, w, st, st', a, H, G, f, e, k => by
    simp only [opsA, Option.some.injEq] at e
    subst e
    exact k φ w a (Step.refl H) f rfl
  | i :: l, _, .cons (b := o) (m := os) hi t, φ, w, st, st', a, H, G, f, e, k => by
    simp only [opsA, Option.bind_eq_some_iff] at e
    obtain ⟨st1, e1, e2⟩ := e
    rw [wpOps_cons]
    refine step_ok hc hi H G f e1 ?_
    intro φ' w' a' s f' d
    exact ops_ok hc t s.hr (G.step s) f' e2 (d ▸ k.step H s)
theorem range_all (ops : Array Oper) : All2 (fun i o => ops[i]? = some o) (List.range ops.size) ops.toList := by
  have key : ∀ (l : List Oper) (s : Nat), (∀ i, l[i]? = ops[s + i]?) → All2 (fun i o => ops[i]? = some o) (List.range' s l.length) l := by
    intro l
    induction l with
    | nil => intro s _; exact .nil
    | cons o l ih =>
      intro s hs
      rw [List.length_cons, List.range'_succ]
      refine .cons (by have := hs 0; simp at this; exact this.symm) (ih (s + 1) fun i => ?_)
      have := hs (i + 1)
      simp at this
      rw [this]; congr 1; omega
  have := key ops.toList 0 (by intro i; simp)
  rw [List.range_eq_range']
  simpa using this
end
end Go.Vai
