/- The abstract machine: ranges over functions: the iterator's own code, and a round's. -/
import Derived.Test.YtbndnhkhphkjgaaGreatDoorVai13e
import Derived.RangeFuncIn
import Derived.RangeFuncCalls
import Derived.RangeFuncLeaves
import Derived.RangeFuncRecord
import Derived.LoopNIn
import Derived.OrdersIn
namespace Go.Vai
set_option linter.unusedVariables false
set_option linter.unusedSimpArgs false
set_option linter.unusedSectionVars false
variable [Lane]
variable {P : Program} {base : Nat} {φ φ' φ'' : Emb} {h h' h'' : Heap} {w w' w'' : World}
section
variable {glob : Nat → Option AV} {call : Nat → List AV → Heap → Option (AV × Heap)} {N n : Nat} {F : Fence} {yb l : Nat} {yc : YieldT} {LI : Emb → Heap → World → Prop}
/-- what a call of the loop's own function does -/
def YieldOk (P : Program) (base : Nat) (F : Fence) (n : Nat) (glob : Nat → Option AV) (yb : Nat) (LI : Emb → Heap → World → Prop) (yc : YieldT) : Prop :=
  ∀ xs h r, yc xs h = some r → ∀ φ w (us : Array Value) (l : Nat), HR base φ h w → GlobOk glob φ w → LI φ h w → All2 (VR φ w) xs us.toList → VR φ w (.yld yb) (.func (.yield l) #[] #[]) →
    ∃ f tmps assign body, (Instr.yield l us).run P w = .ok (.round l f tmps assign body) w ∧ RoundIn F (n - 1) P l f tmps assign body w (fun e w' => ∃ v φ', e = .returned v ∧ Step base φ h w φ' r.2 w' ∧ VR φ' w' r.1 v)
theorem noYield_ok : YieldOk P base F n glob yb LI noYield := by
  intro xs h r e
  cases e
theorem notDefer {ρ : Rho} {o : Oper} {r : ANext} (e : aop P ρ h o = some r) : ∀ c, o.op ≠ .defer c := by
  intro c hc
  unfold aop aopY aop0 opA aopX lanesA pureL at e
  simp only [hc, oNone] at e
  cases e
/-- what is left to be shown behind a piece of code, where the loop's record is looked after -/
def AfterI (base : Nat) (N : Nat) (LI : Emb → Heap → World → Prop) (φ : Emb) (h : Heap) (w : World) (ds : List Deferred) (st' : St) (K : Act → World → Prop) : Prop :=
  ∀ φ' w' a', Step base φ h w φ' st'.h w' → LI φ' st'.h w' → FR N φ' w' st'.fr a' → a'.defers = ds → K a' w'
theorem AfterI.step {ds : List Deferred} {st' : St} {K : Act → World → Prop} (H : HR base φ h w) (k : AfterI base N LI φ h w ds st' K) (s : Step base φ h w φ' h' w') : AfterI base N LI φ' h' w' ds st' K :=
  fun φ'' w'' a' t q f d => k φ'' w'' a' (s.trans H t) q f d
variable (hF : ∀ f, F.fn f) (hd : F.depth = none) (hlift : ∀ {g : Nat} {us : Array Value} {w : World} {R : Ending → World → Prop}, Calls P g us w R → CallsIn F (n - 1) P g us w R) (hc : CallOk P base glob call) (hy : YieldOk P base F n glob yb LI yc) (hLI : ∀ {φ h w φ' h' w'}, HR base φ h w → Step base φ h w φ' h' w' → LI φ h w → LI φ' h' w')
include hF hd hlift hc hy hLI
theorem stepI_ok {Q : Exit → Act → World → Prop} {ops : Array Oper} {i : Nat} {o : Oper} {st st' : St} {a : Act} (hi : ops[i]? = some o)
    (H : HR base φ st.h w) (G : GlobOk glob φ w) (q : LI φ st.h w) (f : FR N φ w st.fr a) (e : stepI P glob call yb yc N ops st o = some st') {K : Act → World → Prop} (k : AfterI base N LI φ st.h w a.defers st' K) : wpOpIn F n P ops Q i K a w := by
  unfold stepI at e
  unfold wpOpIn
  simp only [hi]
  have skipped : Region.wanted o (yielded ops a.tmps) = false → (putA N st.fr o.dst .u).map (mkSt st.h) = some st' → (∀ f, o.about P w a.eval = some f → F.fn f) ∧ K (a.put o.dst undef) w := by
    intro _ e
    simp only [Option.map_eq_some_iff] at e
    obtain ⟨fr', hp, rfl⟩ := e
    exact ⟨fun f _ => hF f, k φ w _ (Step.refl H) q (f.put .u hp) (put_defers _ _ _)⟩
  split at e
  · -- the loop's own function
    rename_i xs hxs
    cases hgl : guardLive ops st.fr o with
    | false => rw [hgl] at e; cases e
    | true =>
    rw [hgl, cond_true, want_ok f ops o hgl] at e
    cases hw : Region.wanted o (yielded ops a.tmps) with
    | false =>
      rw [hw, cond_false] at e
      rw [if_neg (by decide)]
      exact skipped hw e
    | true =>
      rw [hw, cond_true] at e
      rw [if_pos rfl]
      refine ⟨fun f _ => hF f, ?_⟩
      unfold yieldArgs at hxs
      split at hxs
      case h_2 => cases hxs
      rename_i c ho
      split at hxs
      case h_2 => cases hxs
      rename_i x hcal
      split at hxs
      case h_2 => cases hxs
      rename_i b hx
      cases hb : Nat.beq b yb with
      | false => rw [hb] at hxs; cases hxs
      | true =>
      rw [hb, cond_true] at hxs
      have hbe := Nat.eq_of_beq_eq_true hb
      subst hbe
      have hargs := args_all2 (fun x v hx => f.eval G.at1 x v hx) c.args hxs
      have hfv := f.eval G.at1 _ _ hx
      simp only [Option.bind_eq_some_iff, Option.map_eq_some_iff] at e
      obtain ⟨r, hr, fr', hp, rfl⟩ := e
      rw [Oper.semAt_eq F.round a.eval o (by intro c' hc'; rw [ho] at hc'; cases hc')]
      generalize hfe : a.eval x = fv at hfv
      have hfv0 := hfv
      cases hfv with
      | yld _ cl hcl =>
      obtain ⟨rf, tmps, assign, body, y1, y2⟩ := hy xs st.h r hr φ w (c.args.map a.eval) cl.cb H G q hargs hfv0
      have hexec : (execOp a.eval o).run P w = .ok (.round cl.cb rf tmps assign body) w := by
        unfold execOp
        rw [ho]
        simp only [resolve, hcal, hfe]
        simp only [Sem.run_bind, Deferred.ofValue, invoke, Sem.run_pure, Result.andThen_ok]
        simpa using y1
      rw [hexec, Oper.uponIn_round]
      refine ⟨(fun z => by rw [hd] at z; cases z), y2.mono ?_⟩
      rintro _ w' ⟨v, φ', rfl, s, hv⟩
      exact k φ' w' _ s (hLI H s q) ((f.mono s).put hv hp) (put_defers _ _ _)
  · unfold stepA at e
    cases hgl : guardLive ops st.fr o with
    | false => rw [hgl] at e; cases e
    | true =>
    rw [hgl, cond_true, want_ok f ops o hgl] at e
    cases hw : Region.wanted o (yielded ops a.tmps) with
    | false =>
      rw [hw, cond_false] at e
      rw [if_neg (by decide)]
      exact skipped hw e
    | true =>
      rw [hw, cond_true] at e
      rw [if_pos rfl]
      simp only [Option.bind_eq_some_iff] at e
      obtain ⟨r, hr, e⟩ := e
      have nn := op_ok H (fun x v hx => f.eval G.at1 x v hx) hr
      refine ⟨fun f _ => hF f, ?_⟩
      rw [Oper.semAt_eq F.round a.eval o (notDefer hr)]
      unfold afterA at e
      cases r with
      | val v h1 =>
        obtain ⟨φ', w', u, q1, q2, q3⟩ := nn
        rw [q1, Oper.uponIn_value]
        simp only [Option.map_eq_some_iff] at e
        obtain ⟨fr', hp, rfl⟩ := e
        exact k φ' w' _ q2 (hLI H q2 q) ((f.mono q2).put q3 hp) (put_defers _ _ _)
      | skip h1 =>
        obtain ⟨φ', w', q1, q2⟩ := nn
        rw [q1, Oper.uponIn_skip]
        simp only [Option.map_eq_some_iff] at e
        obtain ⟨fr', hp, rfl⟩ := e
        exact k φ' w' _ q2 (hLI H q2 q) ((f.mono q2).put .u hp) (put_defers _ _ _)
      | enter g xs =>
        obtain ⟨us, q1, q2⟩ := nn
        simp only [Option.bind_eq_some_iff] at e
        obtain ⟨r, hr, e⟩ := e
        simp only [Option.map_eq_some_iff] at e
        obtain ⟨fr', hp, rfl⟩ := e
        rcases hc g xs st.h r hr φ w us H G q2 with ⟨c1, c2⟩ | ⟨v, φ', w', c1, s, hv⟩
        case inr =>
          rw [q1, c1, Oper.uponIn_value]
          exact k φ' w' _ s (hLI H s q) ((f.mono s).put hv hp) (put_defers _ _ _)
        rw [q1, c1, Oper.uponIn_enter]
        refine ⟨(fun z => by rw [hd] at z; cases z), ?_⟩
        have c3 : CallsIn F (n - 1) P g us w _ := hlift c2
        refine c3.mono ?_
        rintro _ w' ⟨v, φ', rfl, s, hv⟩
        exact k φ' w' _ s (hLI H s q) ((f.mono s).put hv hp) (put_defers _ _ _)
theorem opsI_ok {Q : Exit → Act → World → Prop} {ops : Array Oper} : ∀ {il : List Nat} {os : List Oper}, All2 (fun i o => ops[i]? = some o) il os → ∀ {φ : Emb} {w : World} {st st' : St} {a : Act},
    HR base φ st.h w → GlobOk glob φ w → LI φ st.h w → FR N φ w st.fr a → opsI P glob call yb yc N ops os st = some st' → AfterI base N LI φ st.h w a.defers st' (Q .normal) → wpOpsIn F n P ops Q il a w
  | [], _, .nil, φ, w, st, st', a, H, G, q, f, e, k => by
    simp only [opsI, Option.some.injEq] at e
    subst e
    exact k φ w a (Step.refl H) q f rfl
  | i :: il, _, .cons (b := o) (m := os) hi t, φ, w, st, st', a, H, G, q, f, e, k => by
    simp only [opsI, Option.bind_eq_some_iff] at e
    obtain ⟨st1, e1, e2⟩ := e
    rw [wpOpsIn_cons]
    refine stepI_ok hF hd hlift hc hy hLI hi H G q f e1 ?_
    intro φ' w' a' s q' f' d
    exact opsI_ok t s.hr (G.step s) q' f' e2 (d ▸ k.step H s)
theorem codeI_ok (L : Nat) (c : Code) : ∀ {Q : Exit → Act → World → Prop} {φ : Emb} {w : World} {st st' : St} {x : AEx} {a : Act},
    HR base φ st.h w → GlobOk glob φ w → LI φ st.h w → FR N φ w st.fr a → codeI P glob call yb yc L N c st = some (x, st') → AfterI base N LI φ st.h w a.defers st' (Q (exOf x)) → c.wpIn F n P Q a w := by
  induction c with
  | skip =>
    intro Q φ w st st' x a H G q f e k
    simp only [codeI, Option.some.injEq, Prod.mk.injEq] at e
    obtain ⟨rfl, rfl⟩ := e
    exact wpIn_skip (k φ w a (Step.refl H) q f rfl)
  | label l =>
    intro Q φ w st st' x a H G q f e k
    simp only [codeI, Option.some.injEq, Prod.mk.injEq] at e
    obtain ⟨rfl, rfl⟩ := e
    exact wpIn_label (k φ w a (Step.refl H) q f rfl)
  | exit id =>
    intro Q φ w st st' x a H G q f e k
    simp only [codeI, Option.some.injEq, Prod.mk.injEq] at e
    obtain ⟨rfl, rfl⟩ := e
    exact wpIn_exit (k φ w a (Step.refl H) q f rfl)
  | ret =>
    intro Q φ w st st' x a H G q f e k
    simp only [codeI, Option.some.injEq, Prod.mk.injEq] at e
    obtain ⟨rfl, rfl⟩ := e
    exact wpIn_ret (k φ w a (Step.refl H) q f rfl)
  | region id ops d =>
    intro Q φ w st st' x a H G q f e k
    simp only [codeI] at e
    cases d with
    | true => simp at e
    | false =>
    simp only [Bool.false_eq_true, if_false, Option.map_eq_some_iff, Prod.mk.injEq] at e
    obtain ⟨st1, e1, rfl, rfl⟩ := e
    exact wpIn_region (opsI_ok hF hd hlift hc hy hLI (range_all ops) H G q f e1 k)
  | seq c1 c2 ih1 ih2 =>
    intro Q φ w st st' x a H G q f e k
    simp only [codeI, Option.bind_eq_some_iff] at e
    obtain ⟨⟨y, st1⟩, e1, e2⟩ := e
    refine wpIn_seq (ih1 H G q f e1 ?_)
    intro φ' w' a' s q' f' d
    cases y with
    | normal => exact ih2 s.hr (G.step s) q' f' e2 (d ▸ k.step H s)
    | exit id => simp only [Option.some.injEq, Prod.mk.injEq] at e2; obtain ⟨rfl, rfl⟩ := e2; exact k φ' w' a' s q' f' d
    | ret => simp only [Option.some.injEq, Prod.mk.injEq] at e2; obtain ⟨rfl, rfl⟩ := e2; exact k φ' w' a' s q' f' d
  | cond c c1 c2 ih1 ih2 =>
    intro Q φ w st st' x a H G q f e k
    simp only [codeI, Option.bind_eq_some_iff] at e
    obtain ⟨v, hv0, e⟩ := e
    have hv := f.eval G.at1 _ _ hv0
    clear hv0
    split at e
    · refine wpIn_cond (t := true) ?_ (ih1 H G q f e k)
      generalize a.eval c = u at hv
      cases hv; rfl
    · refine wpIn_cond (t := false) ?_ (ih2 H G q f e k)
      generalize a.eval c = u at hv
      cases hv; rfl
    · cases e
  | block id c ih =>
    intro Q φ w st st' x a H G q f e k
    simp only [codeI, Option.map_eq_some_iff] at e
    obtain ⟨⟨y, st1⟩, e1, e2⟩ := e
    refine wpIn_block (ih H G q f e1 ?_)
    intro φ' w' a' s q' f' d
    cases y with
    | normal => cases e2; exact k φ' w' a' s q' f' d
    | ret => cases e2; exact k φ' w' a' s q' f' d
    | exit id' =>
      simp only [exOf, Exit.inBlock]
      simp only at e2
      split at e2
      · rename_i z; cases e2; rw [if_pos z]; exact k φ' w' a' s q' f' d
      · rename_i z; cases e2; rw [if_neg z]; exact k φ' w' a' s q' f' d
  | loop c ih =>
    intro Q φ w st st' x a H G q f e k
    simp only [codeI] at e
    have key : ∀ m {φ : Emb} {w : World} {st : St} {a : Act}, HR base φ st.h w → GlobOk glob φ w → LI φ st.h w → FR N φ w st.fr a → iterA (codeI P glob call yb yc L N c) m st = some (x, st') → AfterI base N LI φ st.h w a.defers st' (Q (exOf x)) → Code.roundsIn F n P c Q m a w := by
      intro m
      induction m with
      | zero => intro φ w st a H G q f e; simp [iterA] at e
      | succ m ihn =>
        intro φ w st a H G q f e k
        simp only [iterA, Option.bind_eq_some_iff] at e
        obtain ⟨⟨y, st1⟩, e1, e2⟩ := e
        refine ih H G q f e1 ?_
        intro φ' w' a' s q' f' d
        cases y with
        | normal => exact ihn s.hr (G.step s) q' f' e2 (d ▸ k.step H s)
        | exit id => simp only [Option.some.injEq, Prod.mk.injEq] at e2; obtain ⟨rfl, rfl⟩ := e2; exact k φ' w' a' s q' f' d
        | ret => simp only [Option.some.injEq, Prod.mk.injEq] at e2; obtain ⟨rfl, rfl⟩ := e2; exact k φ' w' a' s q' f' d
    exact wpIn_loop_rounds L (key L H G q f e k)
  | rangeFunc => intro Q φ w st st' x a H G q f e k; simp [codeI] at e
  | scope => intro Q φ w st st' x a H G q f e k; simp [codeI] at e
  | goto => intro Q φ w st st' x a H G q f e k; simp [codeI] at e
  | refuse => intro Q φ w st st' x a H G q f e k; simp [codeI] at e
end
/-! the loop's record, and the blocks that no object knows -/
theorem putObj_rows {L : Nat} {o o' : Obj} (hl : w.heap[L]? = some o) (no : o.isCells = false) : Rows w (w.putObj L o') := by
  rintro cb n ⟨arr, t, fz, q1, q2, q3⟩
  refine ⟨arr, t, fz, ?_, q2, q3⟩
  rw [World.putObj_heap_other, q1]
  rintro rfl
  rw [hl] at q1
  cases q1
  cases no
theorem HR.putObj {L : Nat} {o o' : Obj} (H : HR base φ h w) (hu : ∀ b g c, φ b g = some c → wr (h.objs.get b) = true → c.cb ≠ L) (hl : w.heap[L]? = some o) (no : o.isCells = false) : HR base φ h (w.putObj L o') := by
  have hrows := putObj_rows (o' := o') hl no
  refine ⟨H.fresh, by simpa using H.low, fun b g c e => by simpa using H.range b g c e, H.inj, H.los, ?_, ?_⟩
  · intro b ro gen cs g c e1 e2
    obtain ⟨p1, p2, p3, arr, t, fz, pa, pf, pk⟩ := H.cells b ro gen cs g c e1 e2
    have hcl : c.cb ≠ L := by
      rintro rfl
      rw [hl] at pa
      cases pa
      cases no
    refine ⟨p1, p2, p3, arr, t, fz, by rw [World.putObj_heap_other hcl]; exact pa, pf, ?_⟩
    intro i lo v hi hle hao hie
    obtain ⟨u, q1, q2, q3⟩ := pk i lo v hi hle hao hie
    exact ⟨u, q1, q2.mono (Ext.refl _) hrows, q3⟩
  · intro b x g c e1 hx e2
    obtain ⟨p1, p0, ob, p2, p3⟩ := H.other b x g c e1 hx e2
    exact ⟨p1, p0, ob, by rw [World.putObj_heap_other (hu b g c e2 (by rw [e1]; exact wr_other hx))]; exact p2, p3.mono (Ext.refl _) hrows⟩
/-- a block that the memory knows no object of is turned, and was not there at the step's start -/
theorem Step.putObj {L : Nat} {o o' : Obj} (H : HR base φ h w) (s : Step base φ h w φ' h' w') (hL : w.heap.size ≤ L) (hu : ∀ b g c, φ' b g = some c → wr (h'.objs.get b) = true → c.cb ≠ L) (hl : w'.heap[L]? = some o) (no : o.isCells = false) : Step base φ h w φ' h' (w'.putObj L o') := by
  refine ⟨⟨s.hr.putObj hu hl no, s.ext, s.rows.trans (putObj_rows hl no), ⟨s.kept.os, s.kept.tape, s.kept.output, by simpa using s.kept.size, ?_⟩, s.newer, s.next, s.known⟩, ?_⟩
  · intro cb hcb hk
    rw [World.putObj_heap_other (by omega)]
    exact s.kept.block cb hcb hk
  · intro b m n cur g c e1 e2
    have := H.range b g c e2
    obtain ⟨q1, q2⟩ := s.its b m n cur g c e1 e2
    exact ⟨by rw [World.putObj_heap_other (by omega)]; exact q1, q2⟩
theorem FR.rows {N : Nat} {fr : Fr} {a : Act} (f : FR N φ w fr a) (hr : Rows w w') : FR N φ w' fr a :=
  ⟨f.size, fun t q => (f.get t q).imp id fun k => k.mono (Ext.refl _) hr, f.out⟩
theorem GlobOk.put {glob : Nat → Option AV} {L : Nat} {o : Obj} (g : GlobOk glob φ w) (hr : Rows w (w.putObj L o)) (hl : ∃ b g c, φ b g = some c ∧ c.cb = L) : GlobOk glob φ (w.putObj L o) :=
  ⟨fun x v e => (g.at1 x v e).mono (Ext.refl _) hr, fun p hp => ⟨by
    obtain ⟨b, k, c, e1, e2⟩ := hl
    have := (g.stat p hp).2 b k c e1
    rw [World.putObj_heap_other (by omega)]
    exact (g.stat p hp).1, (g.stat p hp).2⟩⟩
/-- what is known of a loop under way: its record, the block for deferred calls, the frame that it was come to with -/
structure LIof (L D b0 : Nat) (rec : Loop) (N : Nat) (fr0 : Fr) (φ : Emb) (h : Heap) (w : World) : Prop where
  at0 : ∃ c0, φ b0 0 = some c0 ∧ c0.cb = L
  lt : b0 < h.next
  non : wr (h.objs.get b0) = false
  rc : w.heap[L]? = some (.loop rec)
  df : w.heap[D]? = some (.deferred (some []))
  un : ∀ b g c, φ b g = some c → c.cb ≠ D
  fr : FR N φ w fr0 { tmps := rec.tmps, defers := [] }
section
variable {L D b0 : Nat} {rec rec' : Loop} {N : Nat} {fr0 : Fr}
theorem LIof.unk (q : LIof L D b0 rec N fr0 φ h w) (H : HR base φ h w) : ∀ b g c, φ b g = some c → wr (h.objs.get b) = true → c.cb ≠ L := by
  rintro b g c e1 e2 e3
  obtain ⟨c0, z1, z2⟩ := q.at0
  have := (H.inj b g c b0 0 c0 e1 z1 (by rw [e3, z2])).1
  subst this
  rw [q.non] at e2
  cases e2
theorem lt_of_get {cb : Nat} {o : Obj} (e : w.heap[cb]? = some o) : cb < w.heap.size := (Array.getElem?_eq_some_iff.1 e).1
theorem LIof.step (q : LIof L D b0 rec N fr0 φ h w) (H : HR base φ h w) (s : Step base φ h w φ' h' w') : LIof L D b0 rec N fr0 φ' h' w' := by
  obtain ⟨c0, z1, z2⟩ := q.at0
  refine ⟨⟨c0, s.ext _ _ _ z1, z2⟩, Nat.lt_of_lt_of_le q.lt s.next, ?_, ?_, ?_, ?_, q.fr.mono s⟩
  · cases e : wr (h'.objs.get b0) with
    | false => rfl
    | true =>
      have := s.known b0 q.lt e
      rw [q.non] at this
      cases this
  · rw [s.kept.block L (lt_of_get q.rc) (q.unk H)]; exact q.rc
  · rw [s.kept.block D (lt_of_get q.df) fun b g c e _ => q.un b g c e]; exact q.df
  · rintro b g c e rfl
    obtain ⟨g0, c1, y1, y2⟩ := s.newer b g c e (lt_of_get q.df)
    exact q.un b g0 c1 y1 y2
theorem LIof.put (q : LIof L D b0 rec N fr0 φ h w) (ht : rec'.tmps = rec.tmps) : LIof L D b0 rec' N fr0 φ h (w.putObj L (.loop rec')) := by
  have hne : D ≠ L := by
    rintro rfl
    have := q.df
    rw [q.rc] at this
    cases this
  refine ⟨q.at0, q.lt, q.non, World.putObj_heap_same (lt_of_get q.rc), (World.putObj_heap_other hne).trans q.df, q.un, ?_⟩
  rw [ht]
  exact q.fr.rows (putObj_rows q.rc rfl)
/-- a round: the record turns, and turns back -/
theorem LIof.round (q : LIof L D b0 rec N fr0 φ h w) (H : HR base φ h w) (s : Step base φ h (w.putObj L (.loop rec')) φ' h' w') (ht : rec'.tmps = rec.tmps) :
    w'.heap[L]? = some (.loop rec') ∧ Step base φ h w φ' h' (w'.putObj L (.loop rec)) := by
  have q2 := q.put ht
  have H2 : HR base φ h (w.putObj L (.loop rec')) := H.putObj (q.unk H) q.rc rfl
  have q3 := q2.step H2 s
  have hun := q3.unk s.hr
  refine ⟨q3.rc, ⟨⟨s.hr.putObj hun q3.rc rfl, s.ext, ((putObj_rows q.rc rfl).trans s.rows).trans (putObj_rows q3.rc rfl), ⟨s.kept.os, s.kept.tape, s.kept.output, by simpa using s.kept.size, ?_⟩, ?_, s.next, s.known⟩, ?_⟩⟩
  · intro cb hcb hk
    by_cases e : cb = L
    · subst e
      rw [World.putObj_heap_same (lt_of_get q3.rc)]; exact q.rc.symm
    · rw [World.putObj_heap_other e, s.kept.block cb (by simpa using hcb) hk, World.putObj_heap_other e]
  · intro b g c e hc
    exact s.newer b g c e (by simpa using hc)
  · intro b m n cur g c e1 e2
    have hne : c.cb ≠ L := q.unk H b g c e2 (by rw [e1]; rfl)
    obtain ⟨y1, y2⟩ := s.its b m n cur g c e1 e2
    exact ⟨by rw [World.putObj_heap_other hne, y1, World.putObj_heap_other hne], y2⟩
end
theorem putAll_ok {N : Nat} : ∀ {ts : List Tmp} {xs : List AV} {us : List Value} {fr fr' : Fr} {a : Act}, putAll N fr ts xs = some fr' → All2 (VR φ w) xs us → FR N φ w fr a →
    ts.length = us.length ∧ FR N φ w fr' { tmps := (ts.zip us).foldl (fun tmps z => tmps.setIfInBounds z.1 z.2) a.tmps, defers := a.defers }
  | [], _, _, fr, fr', a, e, .nil, f => by
    simp only [putAll, Option.some.injEq] at e
    subst e
    exact ⟨rfl, f⟩
  | t :: ts, _, _, fr, fr', a, e, .nil, f => by simp [putAll] at e
  | [], _, _, fr, fr', a, e, .cons _ _, f => by simp [putAll] at e
  | t :: ts, x :: _, u :: _, fr, fr', a, e, .cons hx hxs, f => by
    simp only [putAll, Option.bind_eq_some_iff] at e
    obtain ⟨f1, e1, e2⟩ := e
    obtain ⟨z1, z2⟩ := putAll_ok e2 hxs (f.put hx e1)
    exact ⟨by simp [z1], z2⟩
theorem wide_lift {g n : Nat} {us : Array Value} {R : Ending → World → Prop} (h : Calls P g us w R) : CallsIn Fence.wide n P g us w R := callsIn_wide.2 h
theorem round_lift {g n l : Nat} {us : Array Value} {R : Ending → World → Prop} (h : Calls P g us w R) : CallsIn (Fence.wide.inRound l) n P g us w R := CallsIn.inRound l (callsIn_wide.2 h)
section
variable {glob : Nat → Option AV} {call : Nat → List AV → Heap → Option (AV × Heap)} {N n : Nat} {L D b0 : Nat} {fr0 : Fr}
/-- a round does what the machine's round does -/
theorem roundF_ok (hc : CallOk P base glob call) {fn : FuncId} {tmps : Array Value} {ps : Array Tmp} {assign body : Code} {LL : Nat} :
    YieldOk P base Fence.wide n glob b0 (LIof L D b0 { state := .ready, pending := none, fn := fn, tmps := tmps, params := ps, assign := assign, body := body, defers := D } N fr0) (roundA P glob call LL N ps assign body fr0) := by
  intro xs h r e φ w us l H G q hargs hv
  cases hv with
  | yld _ c hcl =>
  obtain ⟨c0, z1, z2⟩ := q.at0
  rw [hcl] at z1
  cases z1
  unfold roundA at e
  simp only [Option.bind_eq_some_iff] at e
  obtain ⟨fr, hfr, ⟨x1, st1⟩, e1, e⟩ := e
  cases x1 with
  | exit _ => cases e
  | ret => cases e
  | normal =>
  simp only [Option.bind_eq_some_iff] at e
  obtain ⟨⟨x2, st2⟩, e2, e⟩ := e
  cases x2 with
  | exit _ => cases e
  | ret => cases e
  | normal =>
  simp only [Option.some.injEq] at e
  subst e
  obtain ⟨y1, y2⟩ := putAll_ok hfr hargs q.fr
  have hsz : us.size = ps.size := by rw [← Array.length_toList, ← Array.length_toList]; exact y1.symm
  have hq := q.rc
  rw [← z2] at hq
  have hy := run_yield (P := P) (args := us) hq hsz
  refine ⟨fn, _, assign, body, hy, roundIn_of_wpIn trivial ?_⟩
  have hf1 : FR N φ w fr { tmps := (ps.zip us).foldl (fun tmps (t, a) => tmps.setIfInBounds t a) tmps, defers := [] } := by
    have : (ps.zip us).foldl (fun tmps (z : Tmp × Value) => tmps.setIfInBounds z.1 z.2) tmps = (ps.toList.zip us.toList).foldl (fun tmps z => tmps.setIfInBounds z.1 z.2) tmps := by
      rw [← Array.foldl_toList, Array.toList_zip]
    show FR N φ w fr { tmps := (ps.zip us).foldl (fun tmps (z : Tmp × Value) => tmps.setIfInBounds z.1 z.2) tmps, defers := [] }
    rw [this]
    exact y2
  refine codeI_ok (st := ⟨fr, h⟩) (F := Fence.wide.inRound c.cb) (yb := 0) (yc := noYield) (LI := LIof L D b0 { state := .ready, pending := none, fn := fn, tmps := tmps, params := ps, assign := assign, body := body, defers := D } N fr0) (fun _ => trivial) rfl round_lift hc noYield_ok (fun H s q => q.step H s) LL assign H G q hf1 e1 ?_
  intro φ1 w1 a1 s1 q1 f1 d1
  show ∃ w₂, _ ∧ _
  have hr1 := q1.rc
  rw [← z2] at hr1
  refine ⟨_, run_beginRound hr1 rfl, ?_⟩
  rw [z2]
  have q1b := q1.put (rec' := { state := .busy, pending := none, fn := fn, tmps := tmps, params := ps, assign := assign, body := body, defers := D }) rfl
  have H1b := s1.hr.putObj (o' := .loop { state := .busy, pending := none, fn := fn, tmps := tmps, params := ps, assign := assign, body := body, defers := D }) (q1.unk s1.hr) q1.rc rfl
  have rows1 := putObj_rows (o' := .loop { state := .busy, pending := none, fn := fn, tmps := tmps, params := ps, assign := assign, body := body, defers := D }) q1.rc rfl
  refine codeI_ok (F := Fence.wide.inRound L) (yb := 0) (yc := noYield) (LI := LIof L D b0 { state := .busy, pending := none, fn := fn, tmps := tmps, params := ps, assign := assign, body := body, defers := D } N fr0) (fun _ => trivial) rfl round_lift hc noYield_ok (fun H s q => q.step H s) LL body H1b ((G.step s1).put rows1 (by obtain ⟨c1, y1, y2⟩ := q1.at0; exact ⟨b0, 0, c1, y1, y2⟩)) q1b (f1.rows rows1) e2 ?_
  intro φ2 w2 a2 s2 q2 f2 d2
  obtain ⟨r1, r2⟩ := q1.round s1.hr s2 rfl
  show ∃ v w', _ ∧ _
  exact ⟨_, _, run_endRound none r1, _, φ2, rfl, s1.trans H r2, .bool true⟩
end
/-- the function that is ranged over -/
theorem funcI_ok {glob : Nat → Option AV} {call : Nat → List AV → Heap → Option (AV × Heap)} {n yb : Nat} {yc : YieldT} {LI : Emb → Heap → World → Prop} (hc : CallOk P base glob call) (hy : YieldOk P base Fence.wide n glob yb LI yc)
    (hLI : ∀ {φ h w φ' h' w'}, HR base φ h w → Step base φ h w φ' h' w' → LI φ h w → LI φ' h' w') {LL f : Nat} {args : List AV} {us : Array Value} {r : AV × Heap}
    (H : HR base φ h w) (G : GlobOk glob φ w) (q : LI φ h w) (hl : All2 (VR φ w) args us.toList) (e : funcI P glob call yb yc LL f args h = some r) :
    (∃ fn c, P.funcs[f]? = some fn ∧ fn.body = some c) ∧ CallsIn Fence.wide n P f us w (fun e w' => ∃ v φ', e = .returned v ∧ Step base φ h w φ' r.2 w' ∧ LI φ' r.2 w' ∧ VR φ' w' r.1 v) := by
  unfold funcI at e
  simp only [Option.bind_eq_some_iff] at e
  obtain ⟨fn, hf, e⟩ := e
  cases hb : fn.body with
  | none => rw [hb] at e; cases e
  | some c =>
  rw [hb] at e
  simp only [Option.bind_eq_some_iff] at e
  obtain ⟨fr, hfr, ⟨x, st⟩, hx, e⟩ := e
  split at hx
  case isFalse => cases hx
  rename_i hn
  refine ⟨⟨fn, c, hf, hb⟩, ?_⟩
  have F := FR.start (N := fn.ntmps) hfr hl hn
  refine callsIn_of_wp hf hb trivial (codeI_ok (F := Fence.wide) (fun _ => trivial) rfl wide_lift hc hy hLI LL c (st := ⟨fr, h⟩) H G q F hx ?_)
  intro φ' w' a' s q' f' d
  simp only at d
  have fin : ∀ vs, mapO (resA P st.h st.fr) fn.results.toList = some vs → r = ((tupA vs), st.h) → a'.defers = [] ∧ ∃ v, (results fn a'.tmps).run P w' = .ok v w' ∧ (∃ v1 φ', Ending.returned v = .returned v1 ∧ Step base φ h w φ' r.2 w' ∧ LI φ' r.2 w' ∧ VR φ' w' r.1 v1) := by
    intro vs hvs hr
    obtain ⟨u, q1, q2⟩ := results_ok s.hr f' hvs
    subst hr
    exact ⟨d, u, q1, u, φ', rfl, s, q', q2⟩
  unfold outA at e
  cases x with
  | normal =>
    simp only [Option.map_eq_some_iff] at e
    obtain ⟨vs, hvs, rfl⟩ := e
    exact fin vs hvs rfl
  | ret =>
    simp only [Option.map_eq_some_iff] at e
    obtain ⟨vs, hvs, rfl⟩ := e
    exact fin vs hvs rfl
  | exit id => cases e
/-- two blocks more, of which the memory knows the second, by a name of its own -/
theorem lay_ok (H : HR base φ h w) (o o' : Obj) : Step base φ h w (addE φ h.next 0 ⟨w.heap.size + 1, 0, 0, 0⟩) ⟨h.next + 1, h.objs⟩ ((w.alloc o).alloc o') := by
  obtain ⟨f1, f2⟩ := H.fresh h.next (Nat.le_refl _)
  have hget : ∀ k, k < w.heap.size → ((w.alloc o).alloc o').heap[k]? = w.heap[k]? := fun k hk => by
    rw [alloc_get _ _ _ (by rw [World.size_alloc]; omega), alloc_get _ _ _ hk]
  have hsz : ((w.alloc o).alloc o').heap.size = w.heap.size + 2 := by rw [World.size_alloc, World.size_alloc]
  have hext := addE_ext (φ := φ) (b := h.next) (g := 0) (c := ⟨w.heap.size + 1, 0, 0, 0⟩) (f2 0)
  have hrows : Rows w ((w.alloc o).alloc o') := by
    rintro cb n ⟨arr, t, fz, q1, q2, q3⟩
    exact ⟨arr, t, fz, (hget cb (lt_of_get q1)).trans q1, q2, q3⟩
  have old : ∀ b g c, (h.objs.get b).isSome = true → addE φ h.next 0 ⟨w.heap.size + 1, 0, 0, 0⟩ b g = some c → φ b g = some c := by
    intro b g c e1 e2
    unfold addE at e2
    split at e2
    · rename_i z
      obtain ⟨rfl, rfl⟩ := z
      rw [f1] at e1
      cases e1
    · exact e2
  have either : ∀ b g c, addE φ h.next 0 ⟨w.heap.size + 1, 0, 0, 0⟩ b g = some c → φ b g = some c ∨ (b = h.next ∧ g = 0 ∧ c = ⟨w.heap.size + 1, 0, 0, 0⟩) := by
    intro b g c e2
    unfold addE at e2
    split at e2
    · rename_i z
      cases e2
      exact .inr ⟨z.1, z.2, rfl⟩
    · exact .inl e2
  refine ⟨⟨⟨?_, ?_, ?_, ?_, H.los, ?_, ?_⟩, hext, hrows, ⟨rfl, rfl, rfl, by omega, fun cb hcb _ => hget cb hcb⟩, ?_, Nat.le_succ _, fun _ _ q => q⟩, ?_⟩
  · intro b hb
    have hb' : h.next + 1 ≤ b := hb
    obtain ⟨g1, g2⟩ := H.fresh b (by omega)
    refine ⟨g1, fun g => ?_⟩
    unfold addE
    rw [if_neg (by omega)]
    exact g2 g
  · have := H.low; omega
  · intro b g c e
    rcases either b g c e with q | ⟨_, _, rfl⟩
    · have := H.range b g c q; omega
    · show w.heap.size + 1 < _
      omega
  · intro b g c b' g' c' e1 e2 e3
    rcases either b g c e1 with q | ⟨rfl, rfl, rfl⟩ <;> rcases either b' g' c' e2 with q' | ⟨rfl, rfl, rfl⟩
    · exact H.inj _ _ _ _ _ _ q q' e3
    · have := H.range _ _ _ q
      have e3' : c.cb = w.heap.size + 1 := e3
      omega
    · have := H.range _ _ _ q'
      have e3' : w.heap.size + 1 = c'.cb := e3
      omega
    · exact ⟨rfl, rfl, rfl⟩
  · intro b ro gen cs g c e1 e2
    have e2' := old b g c (by show (h.objs.get b).isSome = true; rw [show h.objs.get b = _ from e1]; rfl) e2
    obtain ⟨p1, p2, p3, arr, t, fz, pa, pf, pk⟩ := H.cells b ro gen cs g c e1 e2'
    refine ⟨p1, p2, p3, arr, t, fz, (hget _ (lt_of_get pa)).trans pa, pf, ?_⟩
    intro i lo v hi hle hao hie
    obtain ⟨u, q1, q2, q3⟩ := pk i lo v hi hle hao hie
    exact ⟨u, q1, q2.mono hext hrows, q3⟩
  · intro b x g c e1 hx e2
    have e2' := old b g c (by show (h.objs.get b).isSome = true; rw [show h.objs.get b = _ from e1]; rfl) e2
    obtain ⟨p1, p0, ob, p2, p3⟩ := H.other b x g c e1 hx e2'
    exact ⟨p1, p0, ob, (hget _ (lt_of_get p2)).trans p2, p3.mono hext hrows⟩
  · intro b g c e hc
    rcases either b g c e with q | ⟨rfl, rfl, rfl⟩
    · exact ⟨g, c, q, rfl⟩
    · have hc' : w.heap.size + 1 < w.heap.size := hc
      omega
  · intro b m n cur g c e1 e2
    exact ⟨hget _ (H.range b g c e2), rfl⟩
/-- the marks among an activation's deferred calls -/
def markOf (D : Nat) : Deferred := { target := .collected D, args := #[] }
def Marks (s0 : Nat) (φ : Emb) (w : World) (ds : List Deferred) : Prop :=
  ∃ Ds : List Nat, ds = Ds.map markOf ∧ Ds.Nodup ∧ ∀ D ∈ Ds, s0 ≤ D ∧ w.heap[D]? = some (.deferred (some [])) ∧ ∀ b g c, φ b g = some c → c.cb ≠ D
theorem Marks.step {s0 : Nat} {ds : List Deferred} (m : Marks s0 φ w ds) (s : Step base φ h w φ' h' w') : Marks s0 φ' w' ds := by
  obtain ⟨Ds, m1, m2, m3⟩ := m
  refine ⟨Ds, m1, m2, fun D hD => ?_⟩
  obtain ⟨n1, n2, n3⟩ := m3 D hD
  refine ⟨n1, ?_, ?_⟩
  · rw [s.kept.block D (lt_of_get n2) fun b g c e _ => n3 b g c e]; exact n2
  · rintro b g c e rfl
    obtain ⟨g0, c1, y1, y2⟩ := s.newer b g c e (lt_of_get n2)
    exact n3 b g0 c1 y1 y2
/-- what is left to be shown, where marks may have come to the deferred calls -/
def AfterD (base : Nat) (N s0 : Nat) (φ : Emb) (h : Heap) (w : World) (st' : St) (K : Act → World → Prop) : Prop :=
  ∀ φ' w' a', Step base φ h w φ' st'.h w' → FR N φ' w' st'.fr a' → Marks s0 φ' w' a'.defers → K a' w'
theorem AfterD.step {N s0 : Nat} {st' : St} {K : Act → World → Prop} (H : HR base φ h w) (k : AfterD base N s0 φ h w st' K) (s : Step base φ h w φ' h' w') : AfterD base N s0 φ' h' w' st' K :=
  fun φ'' w'' a' t f d => k φ'' w'' a' (s.trans H t) f d
theorem AfterD.after {N s0 : Nat} {st' : St} {K : Act → World → Prop} {ds : List Deferred} (k : AfterD base N s0 φ h w st' K) (m : Marks s0 φ w ds) : After base N φ h w ds st' K :=
  fun φ'' w'' a' t f d => k φ'' w'' a' t f (by rw [d]; exact m.step t)
section
variable {glob : Nat → Option AV} {call : Nat → List AV → Heap → Option (AV × Heap)} {N s0 : Nat}
theorem range_ok (hp : Plain P) (hc : CallOk P base glob call) {LL : Nat} {g : Operand} {ps : Array Tmp} {assign body : Code} {Q : Exit → Act → World → Prop} {st st' : St} {a : Act}
    (H : HR base φ st.h w) (G : GlobOk glob φ w) (f : FR N φ w st.fr a) (m : Marks s0 φ w a.defers) (hs : s0 ≤ w.heap.size) (e : rangeA P glob call LL N g ps assign body st = some st') (k : AfterD base N s0 φ st.h w st' (Q .normal)) :
    (Code.rangeFunc g ps assign body).wp P Q a w := by
  unfold rangeA at e
  simp only [Option.bind_eq_some_iff] at e
  obtain ⟨v, hv0, e⟩ := e
  have hv := f.eval G.at1 _ _ hv0
  split at e
  case h_2 => cases e
  rename_i gf cs
  simp only [Option.map_eq_some_iff] at e
  obtain ⟨r, hr, rfl⟩ := e
  clear hv0
  generalize hge : a.eval g = gv at hv
  cases hv with
  | func _ _ vs hcs =>
  refine (wpIn_wide (n := 0)).1 (wpIn_rangeFunc ?_)
  intro fn _
  obtain ⟨W1, hW1⟩ : ∃ W1, (w.alloc (.deferred (some []))).alloc (.loop { state := .ready, pending := none, fn, tmps := a.tmps, params := ps, assign, body, defers := w.heap.size }) = W1 := ⟨_, rfl⟩
  have s1 : Step base φ st.h w (addE φ st.h.next 0 ⟨w.heap.size + 1, 0, 0, 0⟩) ⟨st.h.next + 1, st.h.objs⟩ W1 := by rw [← hW1]; exact lay_ok H _ _
  have hL : W1.heap[w.heap.size + 1]? = some (.loop { state := .ready, pending := none, fn, tmps := a.tmps, params := ps, assign, body, defers := w.heap.size }) := by
    rw [← hW1]
    have := World.alloc_heap_new (w.alloc (.deferred (some []))) (.loop { state := .ready, pending := none, fn, tmps := a.tmps, params := ps, assign, body, defers := w.heap.size })
    rwa [World.size_alloc] at this
  have hD : W1.heap[w.heap.size]? = some (.deferred (some [])) := by
    rw [← hW1, alloc_get _ _ _ (by rw [World.size_alloc]; omega)]
    exact World.alloc_heap_new w _
  have q1 : LIof (w.heap.size + 1) w.heap.size st.h.next { state := .ready, pending := none, fn, tmps := a.tmps, params := ps, assign, body, defers := w.heap.size } N st.fr (addE φ st.h.next 0 ⟨w.heap.size + 1, 0, 0, 0⟩) ⟨st.h.next + 1, st.h.objs⟩ W1 := by
    refine ⟨⟨_, addE_same _ _ _ _, rfl⟩, Nat.lt_succ_self _, (by show wr (st.h.objs.get st.h.next) = false; rw [(H.fresh _ (Nat.le_refl _)).1]; rfl), hL, hD, ?_, ?_⟩
    · intro b g' c e
      unfold addE at e
      split at e
      · cases e
        show w.heap.size + 1 ≠ _
        omega
      · have := H.range b g' c e
        omega
    · have := f.mono s1
      exact ⟨this.size, this.get, this.out⟩
  have hargs : All2 (VR (addE φ st.h.next 0 ⟨w.heap.size + 1, 0, 0, 0⟩) W1) (.yld st.h.next :: cs) (#[Value.func (.yield (w.heap.size + 1)) #[] #[]] ++ (⟨vs⟩ : Array Value)).toList := by
    have : (#[Value.func (.yield (w.heap.size + 1)) #[] #[]] ++ (⟨vs⟩ : Array Value)).toList = Value.func (.yield (w.heap.size + 1)) #[] #[] :: vs := by simp
    rw [this]
    exact .cons (.yld st.h.next ⟨w.heap.size + 1, 0, 0, 0⟩ (addE_same _ _ _ _)) (hcs.step s1)
  obtain ⟨⟨fn', c', hf', hb'⟩, hcall⟩ := funcI_ok (n := 0 - 1) hc (roundF_ok (n := 0 - 1) (fn := fn) (tmps := a.tmps) (D := w.heap.size) (L := w.heap.size + 1) (ps := ps) (assign := assign) (body := body) (N := N) (fr0 := st.fr) (LL := LL) hc) (fun H s q => q.step H s) s1.hr (G.step s1) q1 hargs hr
  have hnm : fn'.name ≠ "runtime.NumGoroutine" := by simpa using hp.names gf fn' hf'
  have eg : ∀ args w, (callFunc gf args).run P w = .ok (.enter gf args) w := fun args w => by simp [callFunc, Sem.run_bind, hf', hnm, hb']
  refine ⟨w.heap.size + 1, [{ target := .collected w.heap.size, args := #[] }], W1, { target := .fn (.func gf) ⟨vs⟩, args := #[.func (.yield (w.heap.size + 1)) #[] #[]] }, W1, gf,
    #[.func (.yield (w.heap.size + 1)) #[] #[]] ++ ⟨vs⟩, W1, ?_, ?_, ?_, ?_, (fun z => by cases z), ?_⟩
  · rw [← hW1]; exact run_enterLoop_outer _ _ _ _ _
  · simp only [resolve, hge]
    simp [go_sem]
  · intro f' _; trivial
  · simp [invoke, go_sem, eg]
  · refine hcall.mono ?_
    rintro _ w' ⟨v, φ', rfl, s2, q2, hv2⟩
    refine ⟨none, _, run_endLoop q2.rc (by simp), ?_⟩
    have s3 := (s1.trans H s2).putObj (o' := .loop { state := .exhausted, pending := none, fn, tmps := a.tmps, params := ps, assign, body, defers := w.heap.size }) H (Nat.le_succ _) (q2.unk s2.hr) q2.rc rfl
    refine k φ' _ _ s3 ?_ ?_
    · have := f.mono s3
      exact ⟨this.size, this.get, this.out⟩
    · obtain ⟨Ds, m1, m2, m3⟩ := m
      have m' : Marks s0 φ' _ a.defers := Marks.step ⟨Ds, m1, m2, m3⟩ s3
      refine ⟨w.heap.size :: Ds, ?_, ?_, ?_⟩
      · show markOf w.heap.size :: a.defers = _
        rw [m1]; rfl
      · refine List.nodup_cons.2 ⟨fun z => ?_, m2⟩
        have := lt_of_get (m3 _ z).2.1
        omega
      · intro D' hD'
        rcases List.mem_cons.1 hD' with rfl | z
        · exact ⟨hs, (World.putObj_heap_other (by omega)).trans q2.df, q2.un⟩
        · obtain ⟨n1, n2, n3⟩ := m3 D' z
          refine ⟨n1, ?_, ?_⟩
          · rw [s3.kept.block D' (lt_of_get n2) fun b g c e _ => n3 b g c e]; exact n2
          · rintro b g c e rfl
            obtain ⟨g0, c1, y1, y2⟩ := s3.newer b g c e (lt_of_get n2)
            exact n3 b g0 c1 y1 y2
theorem codeD_ok (hp : Plain P) (hc : CallOk P base glob call) (L : Nat) (c : Code) : ∀ {Q : Exit → Act → World → Prop} {φ : Emb} {w : World} {st st' : St} {x : AEx} {a : Act},
    HR base φ st.h w → GlobOk glob φ w → FR N φ w st.fr a → Marks s0 φ w a.defers → s0 ≤ w.heap.size → codeD P glob call L N c st = some (x, st') → AfterD base N s0 φ st.h w st' (Q (exOf x)) → c.wp P Q a w := by
  induction c with
  | skip =>
    intro Q φ w st st' x a H G f m hs e k
    simp only [codeD, Option.some.injEq, Prod.mk.injEq] at e
    obtain ⟨rfl, rfl⟩ := e
    exact wp_skip (k φ w a (Step.refl H) f m)
  | label l =>
    intro Q φ w st st' x a H G f m hs e k
    simp only [codeD, Option.some.injEq, Prod.mk.injEq] at e
    obtain ⟨rfl, rfl⟩ := e
    exact wp_label (k φ w a (Step.refl H) f m)
  | exit id =>
    intro Q φ w st st' x a H G f m hs e k
    simp only [codeD, Option.some.injEq, Prod.mk.injEq] at e
    obtain ⟨rfl, rfl⟩ := e
    exact wp_exit (k φ w a (Step.refl H) f m)
  | ret =>
    intro Q φ w st st' x a H G f m hs e k
    simp only [codeD, Option.some.injEq, Prod.mk.injEq] at e
    obtain ⟨rfl, rfl⟩ := e
    exact wp_ret (k φ w a (Step.refl H) f m)
  | region id ops d =>
    intro Q φ w st st' x a H G f m hs e k
    simp only [codeD] at e
    cases d with
    | true =>
      simp only [if_true, Option.map_eq_some_iff, Prod.mk.injEq] at e
      obtain ⟨st1, e1, rfl, rfl⟩ := e
      exact any_ok hc hp.mixed H G f e1 (k.after m)
    | false =>
    simp only [Bool.false_eq_true, if_false, Option.map_eq_some_iff, Prod.mk.injEq] at e
    obtain ⟨st1, e1, rfl, rfl⟩ := e
    exact wp_region (ops_ok hc (range_all ops) H G f e1 (k.after m))
  | seq c1 c2 ih1 ih2 =>
    intro Q φ w st st' x a H G f m hs e k
    simp only [codeD, Option.bind_eq_some_iff] at e
    obtain ⟨⟨y, st1⟩, e1, e2⟩ := e
    refine wp_seq (ih1 H G f m hs e1 ?_)
    intro φ' w' a' s f' m'
    cases y with
    | normal => exact ih2 s.hr (G.step s) f' m' (Nat.le_trans hs s.kept.size) e2 (k.step H s)
    | exit id => simp only [Option.some.injEq, Prod.mk.injEq] at e2; obtain ⟨rfl, rfl⟩ := e2; exact k φ' w' a' s f' m'
    | ret => simp only [Option.some.injEq, Prod.mk.injEq] at e2; obtain ⟨rfl, rfl⟩ := e2; exact k φ' w' a' s f' m'
  | cond c c1 c2 ih1 ih2 =>
    intro Q φ w st st' x a H G f m hs e k
    simp only [codeD, Option.bind_eq_some_iff] at e
    obtain ⟨v, hv0, e⟩ := e
    have hv := f.eval G.at1 _ _ hv0
    clear hv0
    split at e
    · refine wp_cond (t := true) ?_ (ih1 H G f m hs e k)
      generalize a.eval c = u at hv
      cases hv; rfl
    · refine wp_cond (t := false) ?_ (ih2 H G f m hs e k)
      generalize a.eval c = u at hv
      cases hv; rfl
    · cases e
  | block id c ih =>
    intro Q φ w st st' x a H G f m hs e k
    simp only [codeD, Option.map_eq_some_iff] at e
    obtain ⟨⟨y, st1⟩, e1, e2⟩ := e
    refine wp_block (ih H G f m hs e1 ?_)
    intro φ' w' a' s f' m'
    cases y with
    | normal => cases e2; exact k φ' w' a' s f' m'
    | ret => cases e2; exact k φ' w' a' s f' m'
    | exit id' =>
      simp only [exOf, Exit.inBlock]
      simp only at e2
      split at e2
      · rename_i q; cases e2; rw [if_pos q]; exact k φ' w' a' s f' m'
      · rename_i q; cases e2; rw [if_neg q]; exact k φ' w' a' s f' m'
  | loop c ih =>
    intro Q φ w st st' x a H G f m hs e k
    simp only [codeD] at e
    have key : ∀ n {φ : Emb} {w : World} {st : St} {a : Act}, HR base φ st.h w → GlobOk glob φ w → FR N φ w st.fr a → Marks s0 φ w a.defers → s0 ≤ w.heap.size → iterA (codeD P glob call L N c) n st = some (x, st') → AfterD base N s0 φ st.h w st' (Q (exOf x)) → Code.rounds P c Q n a w := by
      intro n
      induction n with
      | zero => intro φ w st a H G f m hs e; simp [iterA] at e
      | succ n ihn =>
        intro φ w st a H G f m hs e k
        simp only [iterA, Option.bind_eq_some_iff] at e
        obtain ⟨⟨y, st1⟩, e1, e2⟩ := e
        refine ih H G f m hs e1 ?_
        intro φ' w' a' s f' m'
        cases y with
        | normal => exact ihn s.hr (G.step s) f' m' (Nat.le_trans hs s.kept.size) e2 (k.step H s)
        | exit id => simp only [Option.some.injEq, Prod.mk.injEq] at e2; obtain ⟨rfl, rfl⟩ := e2; exact k φ' w' a' s f' m'
        | ret => simp only [Option.some.injEq, Prod.mk.injEq] at e2; obtain ⟨rfl, rfl⟩ := e2; exact k φ' w' a' s f' m'
    exact wp_loop_rounds L (key L H G f m hs e k)
  | rangeFunc g ps assign body _ _ =>
    intro Q φ w st st' x a H G f m hs e k
    simp only [codeD, Option.map_eq_some_iff, Prod.mk.injEq] at e
    obtain ⟨st1, e1, rfl, rfl⟩ := e
    exact range_ok hp hc H G f m hs e1 k
  | scope => intro Q φ w st st' x a H G f m hs e k; simp [codeD] at e
  | goto => intro Q φ w st st' x a H G f m hs e k; simp [codeD] at e
  | refuse => intro Q φ w st st' x a H G f m hs e k; simp [codeD] at e
end
/-- a function leaves with nothing but marks -/
theorem leaves_ok {N n s0 : Nat} {fr : Fr} {h0 : Heap} {w0 : World} {φ0 : Emb} (hs : w0.heap.size = s0) (H0 : HR base φ0 h0 w0) {fn : Func} {vs : List AV} {a : Act} {R : Ending → World → Prop} (hres : mapO (resA P h fr) fn.results.toList = some vs)
    (hR : ∀ w' u, Step base φ0 h0 w0 φ h w' → VR φ w' (tupA vs) u → R (.returned u) w') : ∀ (Ds : List Nat) (w : World), Ds.Nodup → (∀ D ∈ Ds, s0 ≤ D ∧ w.heap[D]? = some (.deferred (some [])) ∧ ∀ b g c, φ b g = some c → c.cb ≠ D) →
    Step base φ0 h0 w0 φ h w → FR N φ w fr a → LeavesInM Fence.wide n P fn a.tmps R (Ds.map markOf) .returning w
  | [], w, _, _, s, f => by
    obtain ⟨u, q1, q2⟩ := results_ok s.hr f hres
    exact ⟨u, q1, hR w u s q2⟩
  | D :: Ds, w, hn, hm, s, f => by
    obtain ⟨n1, n2, n3⟩ := hm D (by simp)
    obtain ⟨z1, z2⟩ := List.nodup_cons.1 hn
    refine ⟨by simp, .inl ⟨D, _, rfl, run_takeDeferred n2, ?_⟩⟩
    refine leaves_ok hs H0 hres hR Ds _ z2 ?_ (s.putObj H0 (by omega) (fun b g c e _ => n3 b g c e) n2 rfl) (f.rows (putObj_rows n2 rfl))
    intro D' hD'
    obtain ⟨y1, y2, y3⟩ := hm D' (by simp [hD'])
    exact ⟨y1, (World.putObj_heap_other (by rintro rfl; exact z1 hD')).trans y2, y3⟩
end Go.Vai
