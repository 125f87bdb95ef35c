/- The abstract machine: the loop over a map. -/
import Derived.Test.YtbndnhkhphkjgaaGreatDoorVai17
namespace Go.Vai
set_option linter.unusedVariables false
set_option linter.unusedSimpArgs false
set_option linter.unusedSectionVars false
variable [Lane]
variable {P : Program} {base : Nat} {φ φ' φ'' : Emb} {h h' h'' : Heap} {w w' w'' : World}
section
variable {glob : Nat → Option AV} {call : Nat → List AV → Heap → Option (AV × Heap)} {N : Nat} {Q : Exit → Act → World → Prop} {φ0 : Emb} {h0 : Heap} {w0 : World}

/-- what is left to be shown, told from a start without iterators over maps -/
def WAfter (base : Nat) (N : Nat) (φ : Emb) (h : Heap) (w : World) (ds : List Deferred) (st' : St) (K : Act → World → Prop) : Prop :=
  ∀ φ' w' a', WStep base φ h w φ' st'.h w' → FR N φ' w' st'.fr a' → a'.defers = ds → K a' w'
theorem WAfter.after {ds : List Deferred} {st' : St} {K : Act → World → Prop} (H0 : HR base φ0 h0 w0) (k : WAfter base N φ0 h0 w0 ds st' K) (s : WStep base φ0 h0 w0 φ h w) : After base N φ h w ds st' K :=
  fun φ' w' a' t f d => k φ' w' a' (s.trans H0 t.toWStep) f d
theorem nodup_lt : ∀ (n : Nat) (l : List Nat), l.Nodup → (∀ x ∈ l, x < n) → l.length ≤ n
  | 0, l, _, h => by
    cases l with
    | nil => simp
    | cons a l => have := h a (by simp); omega
  | n + 1, l, hd, h => by
    by_cases hm : n ∈ l
    · have := nodup_lt n (l.erase n) (hd.erase n) (fun x hx => by
        have q := (hd.mem_erase_iff).1 hx
        have := h x q.2
        have := q.1
        omega)
      rw [List.length_erase_of_mem hm] at this
      omega
    · have := nodup_lt n l hd (fun x hx => by
        have := h x hx
        have : x ≠ n := by rintro rfl; exact hm hx
        omega)
      omega
/-- how many entries the iterator has handed out -/
def handed (w : World) (cb : Nat) : Nat := match w.heap[cb]? with | some (.mapIter _ _ seen _) => seen.size | _ => 0
/-- operations that only answer, and that a loop's head does -/
def pureE (o : Oper) : Bool :=
  match o.op with
  | .move _ | .assign _ | .extract .. | .entry _ => true
  | _ => false
theorem op_pureE (H : HR base φ h w) {a : Act} {ρ : Rho} (hρ : ∀ x v, ρ x = some v → VR φ w v (a.eval x)) {o : Oper} {r : ANext} (hp : pureE o = true) (e : aop0 P ρ h o = some r) :
    ValP P φ h w r ((execOp a.eval o).run P w) := by
  unfold pureE at hp
  unfold aop0 opA at e
  unfold execOp
  cases ho : o.op <;> simp only [ho] at e hp ⊢ <;> try (exact absurd hp (by decide))
  case move x =>
    unfold oMove pureO at e
    simp only [Option.map_eq_some_iff] at e
    obtain ⟨v, hv, rfl⟩ := e
    exact ⟨v, _, rfl, rfl, hρ _ _ hv⟩
  case assign x =>
    unfold oMove pureO at e
    simp only [Option.map_eq_some_iff] at e
    obtain ⟨v, hv, rfl⟩ := e
    exact ⟨v, _, rfl, rfl, hρ _ _ hv⟩
  case extract x i =>
    unfold oExtract at e
    simp only [Option.bind_eq_some_iff] at e
    obtain ⟨p, hp0, e⟩ := e
    have hp := hρ _ _ hp0
    clear hp0
    unfold extV at e
    split at e
    case h_2 => cases e
    generalize a.eval x = xv at hp ⊢
    cases hp with
    | tup cs vs hcs =>
    exact pure_P e fun v hv => by
      obtain ⟨u, q1, q2⟩ := hcs.get _ _ hv
      refine ⟨u, ?_, q2⟩
      simp [Instr.extract, q1]
  case entry x =>
    unfold oEntry at e
    simp only [Option.bind_eq_some_iff] at e
    obtain ⟨p, hp, e⟩ := e
    exact pure_P e fun v hv => entryM_ok H (hρ _ _ hp) hv
def opsP (P : Program) (glob : Nat → Option AV) (N : Nat) (h : Heap) : List Oper → Fr → Option Fr
  | [], fr => some fr
  | o :: r, fr => bif o.guard.isNone && pureE o then (aop0 P (evalO glob fr) h o).bind fun x => match x with | .val v _ => (putA N fr o.dst v).bind (opsP P glob N h r) | _ => none else none
theorem opsP_ok {ops : Array Oper} {h : Heap} : ∀ {l : List Nat} {os : List Oper}, All2 (fun i o => ops[i]? = some o) l os → ∀ {fr fr' : Fr} {a : Act},
    HR base φ h w → GlobOk glob φ w → FR N φ w fr a → opsP P glob N h os fr = some fr' → (∀ a', FR N φ w fr' a' → a'.defers = a.defers → Q .normal a' w) → wpOps P ops Q l a w
  | [], _, .nil, fr, fr', a, H, G, f, e, k => by
    simp only [opsP, Option.some.injEq] at e
    subst e
    exact k a f rfl
  | i :: l, _, .cons (b := o) (m := os) hi t, fr, fr', a, H, G, f, e, k => by
    simp only [opsP] at e
    cases hg : (o.guard.isNone && pureE o) with
    | false => rw [hg] at e; cases e
    | true =>
    rw [hg, cond_true] at e
    simp only [Bool.and_eq_true, Option.isNone_iff_eq_none] at hg
    simp only [Option.bind_eq_some_iff] at e
    obtain ⟨r, hr, e⟩ := e
    obtain ⟨v, u, rfl, q2, q3⟩ := op_pureE (P := P) H (fun x v hx => f.eval G.at1 x v hx) hg.2 hr
    simp only [Option.bind_eq_some_iff] at e
    obtain ⟨fr1, hp, e⟩ := e
    rw [wpOps_cons]
    unfold wpOp
    simp only [hi]
    have hw : Region.wanted o (yielded ops a.tmps) = true := by unfold Region.wanted; rw [hg.1]
    rw [if_pos hw]
    refine .inl ?_
    unfold Oper.wp
    rw [q2, Oper.upon_value]
    exact opsP_ok t H G (f.put q3 hp) e fun a' f' d => k a' f' (d.trans (put_defers _ _ _))
structure LoopOk (P : Program) (glob : Nat → Option AV) (call : Nat → List AV → Heap → Option (AV × Heap)) (L N : Nat) (ops0 : Array Oper) (os : List Oper) (tc : Nat) (ops5 : Array Oper) (rest c2 : Code) (st : St) (it d ib mb n : Nat) (es : List (AV × AV)) (x : AEx) (st3 : St) : Prop where
  hit : ∃ e, st.fr.get it = some (.ptr (some ⟨ib, 0, 0, e⟩))
  hi : st.h.objs.get ib = some (.mapit mb n none)
  hm : st.h.objs.get mb = some (.map es)
  hn : es.length = n
  hset : ∃ os1, st.h.objs.set ib (.mapit mb n none) = some os1
  each : ∀ (j : Nat) (e : AV × AV), es[j]? = some e → ∃ fr1 os1 fr2 fr3 st2, putA N st.fr (some d) (.tup [.bool true, e.1, e.2]) = some fr1 ∧ st.h.objs.set ib (.mapit mb n (some j)) = some os1 ∧
    opsP P glob N { st.h with objs := os1 } os fr1 = some fr2 ∧ fr2.get tc = some (.bool true) ∧ opsP P glob N { st.h with objs := os1 } ops5.toList fr2 = some fr3 ∧
    codeA P glob call L N rest ⟨fr3, st.h⟩ = some (.normal, st2) ∧ BackH ib st.h st2.h ∧ BackF N st.fr st2.fr
  last : ∃ fr1 st1, putA N st.fr (some d) (.tup [.bool false]) = some fr1 ∧ opsA P glob call N ops0 os ⟨fr1, st.h⟩ = some st1 ∧ codeA P glob call L N c2 st1 = some (x, st3)
  out : x ≠ .normal
theorem HR.same {h1 h2 : Heap} (hn : h1.next = h2.next) (hg : ∀ b, h1.objs.get b = h2.objs.get b) (H : HR base φ h1 w) : HR base φ h2 w :=
  ⟨fun b hb => by rw [← hg]; exact H.fresh b (by rw [hn]; exact hb), H.low, H.range, H.inj, fun b ro gen cs e => H.los b ro gen cs (by rw [hg]; exact e), fun b ro gen cs g c e => H.cells b ro gen cs g c (by rw [hg]; exact e), fun b x g c e => H.other b x g c (by rw [hg]; exact e)⟩
theorem WStep.same {h1 h2 : Heap} (hn : h1.next = h2.next) (hg : ∀ b, h1.objs.get b = h2.objs.get b) (s : WStep base φ h w φ' h1 w') : WStep base φ h w φ' h2 w' :=
  ⟨s.hr.same hn hg, s.ext, s.rows, s.kept, s.newer, by rw [← hn]; exact s.next, fun b hb q => s.known b hb (by rw [hg]; exact q)⟩
theorem loop_map (hc : CallOk P base glob call) (hmix : P.follows .mixedOrders = true) {L : Nat} {id it d : Nat} {ops : Array Oper} {o0 : Oper} {os : List Oper} {c2 rest : Code} {tc b1 r5 x0 : Nat} {ops5 : Array Oper} (hc2 : c2 = .seq (.cond (.tmp tc) .skip (.exit x0)) (.block b1 (.seq (.region r5 ops5 false) rest))) (hos : ops.toList = o0 :: os)
    (ho : o0.op = .next (.tmp it) false) (hg : o0.guard = none) (hd : o0.dst = some d) {st st3 : St} {ib mb n : Nat} {es : List (AV × AV)} {x : AEx} (K : LoopOk P glob call L N ops os tc ops5 rest c2 st it d ib mb n es x st3)
    {a : Act} (H0 : HR base φ0 h0 w0) (S : WStep base φ0 h0 w0 φ st.h w) (G : GlobOk glob φ w) (f : FR N φ w st.fr a) (k : WAfter base N φ0 h0 w0 a.defers st3 (Q (exOf x))) : (Code.loop (.seq (.region id ops false) c2)).wp P Q a w := by
  obtain ⟨e0, hit⟩ := K.hit
  have hitN : it < N := by
    rcases Nat.lt_or_ge it N with q | q
    · exact q
    · rw [f.out it q] at hit; cases hit
  -- where the iterator lies
  have itval : ∀ {w' : World} {a' : Act}, HR base φ st.h w' → FR N φ w' st.fr a' → ∃ c, φ ib 0 = some c ∧ a'.eval (.tmp it) = .pointer (some ⟨c.cb, 0, none⟩) := by
    intro w' a' H' f'
    have g := f'.get it hitN
    rw [hit] at g
    have g := g.resolve_left (by simp)
    show ∃ c, φ ib 0 = some c ∧ a'.tmps.getD it undef = _
    generalize a'.tmps.getD it undef = u at g
    simp only [Option.getD_some] at g
    cases g with
    | ptr _ ad hl =>
    obtain ⟨c, q1, q2, q3, rfl⟩ := hl
    obtain ⟨_, q0, _⟩ := H'.other _ _ _ _ K.hi rfl q1
    refine ⟨c, q1, ?_⟩
    simp only at q3
    rw [q0.1, show c.ao = 0 by omega]
    rfl
  obtain ⟨c, hcib, _⟩ := itval S.hr f
  refine wp_loop (fun a' w' => WStep base φ0 h0 w0 φ st.h w' ∧ GlobOk glob φ w' ∧ FR N φ w' st.fr a' ∧ a'.defers = a.defers) (fun _ w' => n - handed w' c.cb) ⟨S, G, f, rfl⟩ ?_
  rintro a' w' ⟨S', G', f', hdef⟩
  have H' := S'.hr
  obtain ⟨c', hc', hev⟩ := itval H' f'
  rw [hcib] at hc'
  cases hc'
  refine wp_seq (wp_region ?_)
  have ra := range_all ops
  rw [hos] at ra
  generalize List.range ops.size = l0 at ra ⊢
  cases ra with
  | cons hh ht =>
  rename_i i l
  rw [wpOps_cons]
  unfold wpOp
  simp only [hh]
  have hw : Region.wanted o0 (yielded ops a'.tmps) = true := by unfold Region.wanted; rw [hg]
  rw [if_pos hw]
  refine .inl ?_
  unfold Oper.wp
  obtain ⟨cm, seen, ms, n1, n2, n3, n4, n5, n6, n7⟩ := next_map (P := P) (ty := o0.type) H' K.hi K.hm K.hn hcib
  have hexec : execOp a'.eval o0 = (do pure (.value (← Instr.next (a'.eval (.tmp it)) false o0.type)) : Sem Next) := by
    unfold execOp
    rw [ho]
  rw [hexec, hev]
  rcases n7 with n7 | ⟨j, e, m, w1, j1, j2, j3, j4, n7⟩
  · -- nothing is left
    simp only [Sem.run_bind, n7, Result.andThen_ok, Sem.run_pure, Oper.upon_value, hd]
    obtain ⟨fr1, st1, p1, p2, p3⟩ := K.last
    have f1 : FR N φ w' fr1 (a'.put (some d) (.tuple #[.bool false])) := f'.put (.tup [.bool false] _ (.cons (.bool _) .nil)) p1
    have k' : WAfter base N φ0 h0 w0 (a'.put (some d) (.tuple #[.bool false])).defers st3 (Q (exOf x)) := by rw [put_defers, hdef]; exact k
    refine ops_ok hc ht (st := ⟨fr1, st.h⟩) H' G' f1 p2 ?_
    intro φ2 w2 a2 s2 f2 d2
    refine code_ok hc hmix L c2 s2.hr (G'.step s2) f2 p3 ?_
    intro φ3 w3 a3 s3 f3 d3
    have r := k' φ3 w3 a3 ((S'.trans H0 s2.toWStep).trans H0 s3.toWStep) f3 (by rw [d3, d2])
    have hx := K.out
    cases x with
    | normal => exact absurd rfl hx
    | exit id => exact r
    | ret => exact r
  · -- an entry
    simp only [Sem.run_bind, n7, Result.andThen_ok, Sem.run_pure, Oper.upon_value, hd]
    obtain ⟨fr1, os1, fr2, fr3, st2, p1, p2, p3, p3b, p3c, p4, p5, p6⟩ := K.each j e j1
    obtain ⟨os0, p2n⟩ := K.hset
    obtain ⟨m', hm1, hm2⟩ := n4.get _ _ j1
    have hm1' : ms[j]? = some m' := by simpa using hm1
    rw [j2] at hm1'
    cases hm1'
    have dr : Step base φ st.h w' φ st.h w1 := by
      rcases j4 with rfl | rfl
      · exact Step.refl H'
      · exact drew_step H' _
    have hjn : j < n := by
      have : j < es.length := by
        rcases Nat.lt_or_ge j es.length with q | q
        · exact q
        · rw [List.getElem?_eq_none q] at j1; cases j1
      rw [← K.hn]; exact this
    have hseen : ∀ cur, (∀ j', cur = some j' → (seen.push j).back? = some j') → ObjR φ w1 (.mapit mb n cur) (.mapIter (some cm.cb) n (seen.push j) n) := by
      intro cur hcur
      refine .mapit mb n cm (seen.push j) cur n1 ?_ ?_ hcur
      · intro s hs
        rw [Array.toList_push, List.mem_append] at hs
        rcases hs with hs | hs
        · exact n6 s hs
        · simp at hs; omega
      · rw [Array.toList_push]
        refine List.nodup_append.2 ⟨n5, by simp, ?_⟩
        intro a ha b hb
        simp at hb
        rintro rfl
        exact j3 (by rw [← hb]; exact ha)
    have oj : WStep base φ st.h w1 φ { st.h with objs := os1 } (setBlock w1 c.cb (.mapIter (some cm.cb) n (seen.push j) n)) := obj_wstep dr.hr K.hi rfl hcib p2 rfl (hseen (some j) (by intro j' q; cases q; simp))
    have ob : WStep base φ st.h w1 φ st.h (setBlock w1 c.cb (.mapIter (some cm.cb) n (seen.push j) n)) := WStep.same (h1 := { st.h with objs := os0 }) rfl (fun b => by
        show os0.get b = _
        rw [Tr.get_set p2n]
        by_cases q : b = ib
        · rw [if_pos q, q, K.hi]
        · rw [if_neg q]) (obj_wstep dr.hr K.hi rfl hcib p2n rfl (hseen none (by intro j' q; cases q)))
    have S1 := (dr.toWStep.trans H' ob)
    have G1 : GlobOk glob φ (setBlock w1 c.cb (.mapIter (some cm.cb) n (seen.push j) n)) := G'.wstep S1
    have f1 : FR N φ (setBlock w1 c.cb (.mapIter (some cm.cb) n (seen.push j) n)) fr1 (a'.put (some d) (.tuple #[.bool true, m.key, m.val])) := by
      have f'' : FR N φ (setBlock w1 c.cb (.mapIter (some cm.cb) n (seen.push j) n)) st.fr a' := ⟨f'.size, fun t q => (f'.get t q).imp (fun z => z) fun z => z.mono S1.ext S1.rows, f'.out⟩
      exact f''.put (.tup [.bool true, e.1, e.2] _ (.cons (.bool _) (.cons (hm2.key.mono S1.ext S1.rows) (.cons (hm2.val.mono S1.ext S1.rows) .nil)))) p1
    refine opsP_ok ht oj.hr G1 f1 p3 ?_
    intro a2 f2 d2
    rw [hc2]
    have hcond : a2.eval (.tmp tc) = .bool true := by
      have hN : tc < N := by
        rcases Nat.lt_or_ge tc N with q | q
        · exact q
        · rw [f2.out tc q] at p3b; cases p3b
      have g := f2.get tc hN
      rw [p3b] at g
      have g := g.resolve_left (by simp)
      simp only [Option.getD_some] at g
      show a2.tmps.getD tc undef = _
      generalize a2.tmps.getD tc undef = u at g
      cases g; rfl
    refine wp_seq (wp_cond (t := true) hcond (wp_skip ?_))
    refine wp_block (wp_seq (wp_region (opsP_ok (range_all ops5) oj.hr G1 f2 p3c ?_)))
    intro a2b f2b d2b
    refine code_ok hc hmix L rest (st := ⟨fr3, st.h⟩) ob.hr G1 f2b p4 ?_
    intro φ3 w3 a3 s23 f3 d3
    have T := S1.trans H' s23.toWStep
    have hext : Ext φ φ3 := T.ext
    have hback : HR base φ st.h w3 := H'.back T.hr hext T.kept.size p5
    have W3 : WStep base φ0 h0 w0 φ3 st2.h w3 := S'.trans H0 T
    refine ⟨⟨⟨hback, S'.ext, W3.rows, W3.kept, S'.newer, S'.next, S'.known⟩, ?_, f'.back f3 hext p6, by rw [d3, d2b, d2, put_defers, hdef]⟩, ?_⟩
    · exact G'.ret T
    · -- one more is handed out
      obtain ⟨i1, _⟩ := s23.its ib mb n none 0 c K.hi hcib
      have hcb : c.cb < w1.heap.size := dr.hr.range _ _ _ hcib
      have hat : (setBlock w1 c.cb (.mapIter (some cm.cb) n (seen.push j) n)).heap[c.cb]? = some (.mapIter (some cm.cb) n (seen.push j) n) := by
        show (w1.heap.setIfInBounds c.cb _)[c.cb]? = _
        rw [Array.getElem?_setIfInBounds_self, if_pos hcb]
      have h1 : handed w3 c.cb = seen.size + 1 := by
        unfold handed
        rw [i1, hat]
        simp
      have h2 : handed w' c.cb = seen.size := by
        unfold handed
        rw [n2]
      have h3 : seen.size < n := by
        have hs : (j :: seen.toList).Nodup := List.nodup_cons.2 ⟨j3, n5⟩
        have := nodup_lt n _ hs (fun z hz => by
          rcases List.mem_cons.1 hz with rfl | hz
          · exact hjn
          · exact n6 z hz)
        simp at this
        omega
      show n - handed w3 c.cb < n - handed w' c.cb
      rw [h1, h2]
      omega
end
end Go.Vai
