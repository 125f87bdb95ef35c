/- The abstract machine: control, functions. -/
import Derived.Test.YtbndnhkhphkjgaaGreatDoorVai13h
import Derived.Test.YtbndnhkhphkjgaaGreatDoorVai11x
namespace Go.Vai
set_option linter.unusedVariables false
set_option linter.unusedSimpArgs false
set_option linter.unusedSectionVars false
variable [Lane]
variable {P : Program} {base : Nat} {φ φ' φ'' : Emb} {h h' h'' : Heap} {w w' w'' : World}
section
variable {glob : Nat → Option AV} {call : Nat → List AV → Heap → Option (AV × Heap)} {N : Nat} {Q : Exit → Act → World → Prop}
def exOf : AEx → Exit
  | .normal => .normal
  | .exit id => .exit id
  | .ret => .ret
theorem code_ok (hc : CallOk P base glob call) (hmix : P.follows .mixedOrders = true) (L : Nat) (c : Code) : ∀ {Q : Exit → Act → World → Prop} {φ : Emb} {w : World} {st st' : St} {x : AEx} {a : Act},
    HR base φ st.h w → GlobOk glob φ w → FR N φ w st.fr a → codeA P glob call L N c st = some (x, st') → After base N φ st.h w a.defers st' (Q (exOf x)) → c.wp P Q a w := by
  induction c with
  | skip =>
    intro Q φ w st st' x a H G f e k
    simp only [codeA, Option.some.injEq, Prod.mk.injEq] at e
    obtain ⟨rfl, rfl⟩ := e
    exact wp_skip (k φ w a (Step.refl H) f rfl)
  | label l =>
    intro Q φ w st st' x a H G f e k
    simp only [codeA, Option.some.injEq, Prod.mk.injEq] at e
    obtain ⟨rfl, rfl⟩ := e
    exact wp_label (k φ w a (Step.refl H) f rfl)
  | exit id =>
    intro Q φ w st st' x a H G f e k
    simp only [codeA, Option.some.injEq, Prod.mk.injEq] at e
    obtain ⟨rfl, rfl⟩ := e
    exact wp_exit (k φ w a (Step.refl H) f rfl)
  | ret =>
    intro Q φ w st st' x a H G f e k
    simp only [codeA, Option.some.injEq, Prod.mk.injEq] at e
    obtain ⟨rfl, rfl⟩ := e
    exact wp_ret (k φ w a (Step.refl H) f rfl)
  | region id ops d =>
    intro Q φ w st st' x a H G f e k
    simp only [codeA] at e
    cases d with
    | true =>
      simp only [if_true, Option.map_eq_some_iff, Prod.mk.injEq] at e
      obtain ⟨st1, e1, rfl, rfl⟩ := e
      exact any_ok hc hmix H G f e1 k
    | false =>
    simp only [Bool.false_eq_true, if_false, Option.map_eq_some_iff, Prod.mk.injEq] at e
    obtain ⟨st1, e1, rfl, rfl⟩ := e
    exact wp_region (ops_ok hc (range_all ops) H G f e1 k)
  | seq c1 c2 ih1 ih2 =>
    intro Q φ w st st' x a H G f e k
    simp only [codeA, Option.bind_eq_some_iff] at e
    obtain ⟨⟨y, st1⟩, e1, e2⟩ := e
    refine wp_seq (ih1 H G f e1 ?_)
    intro φ' w' a' s f' d
    cases y with
    | normal => exact ih2 s.hr (G.step s) f' e2 (d ▸ k.step H s)
    | exit id => simp only [Option.some.injEq, Prod.mk.injEq] at e2; obtain ⟨rfl, rfl⟩ := e2; exact k φ' w' a' s f' d
    | ret => simp only [Option.some.injEq, Prod.mk.injEq] at e2; obtain ⟨rfl, rfl⟩ := e2; exact k φ' w' a' s f' d
  | cond c c1 c2 ih1 ih2 =>
    intro Q φ w st st' x a H G f e k
    simp only [codeA, Option.bind_eq_some_iff] at e
    obtain ⟨v, hv0, e⟩ := e
    have hv := f.eval G.at1 _ _ hv0
    clear hv0
    split at e
    · refine wp_cond (t := true) ?_ (ih1 H G f e k)
      generalize a.eval c = u at hv
      cases hv; rfl
    · refine wp_cond (t := false) ?_ (ih2 H G f e k)
      generalize a.eval c = u at hv
      cases hv; rfl
    · cases e
  | block id c ih =>
    intro Q φ w st st' x a H G f e k
    simp only [codeA, Option.map_eq_some_iff] at e
    obtain ⟨⟨y, st1⟩, e1, e2⟩ := e
    refine wp_block (ih H G f e1 ?_)
    intro φ' w' a' s f' d
    cases y with
    | normal => cases e2; exact k φ' w' a' s f' d
    | ret => cases e2; exact k φ' w' a' s f' d
    | exit id' =>
      simp only [exOf, Exit.inBlock]
      simp only at e2
      split at e2
      · rename_i q; cases e2; rw [if_pos q]; exact k φ' w' a' s f' d
      · rename_i q; cases e2; rw [if_neg q]; exact k φ' w' a' s f' d
  | loop c ih =>
    intro Q φ w st st' x a H G f e k
    simp only [codeA] at e
    have key : ∀ n {φ : Emb} {w : World} {st : St} {a : Act}, HR base φ st.h w → GlobOk glob φ w → FR N φ w st.fr a → iterA (codeA P glob call L N c) n st = some (x, st') → After base N φ st.h w a.defers st' (Q (exOf x)) → Code.rounds P c Q n a w := by
      intro n
      induction n with
      | zero => intro φ w st a H G f e; simp [iterA] at e
      | succ n ihn =>
        intro φ w st a H G f e k
        simp only [iterA, Option.bind_eq_some_iff] at e
        obtain ⟨⟨y, st1⟩, e1, e2⟩ := e
        refine ih H G f e1 ?_
        intro φ' w' a' s f' d
        cases y with
        | normal => exact ihn s.hr (G.step s) f' e2 (d ▸ k.step H s)
        | exit id => simp only [Option.some.injEq, Prod.mk.injEq] at e2; obtain ⟨rfl, rfl⟩ := e2; exact k φ' w' a' s f' d
        | ret => simp only [Option.some.injEq, Prod.mk.injEq] at e2; obtain ⟨rfl, rfl⟩ := e2; exact k φ' w' a' s f' d
    exact wp_loop_rounds L (key L H G f e k)
  | rangeFunc => intro Q φ w st st' x a H G f e k; simp [codeA] at e
  | scope => intro Q φ w st st' x a H G f e k; simp [codeA] at e
  | goto => intro Q φ w st st' x a H G f e k; simp [codeA] at e
  | refuse => intro Q φ w st st' x a H G f e k; simp [codeA] at e
/-- a frame's start -/
theorem args_fr : ∀ {l : List AV} {us : List Value} {i : Nat} {fr fr' : Fr}, argsFr i l fr = some fr' → All2 (VR φ w) l us →
    ∀ t, (fr'.get t = if i ≤ t ∧ t < i + l.length then l[t - i]? else fr.get t)
  | [], _, i, fr, fr', e, _, t => by
    simp only [argsFr, Option.some.injEq] at e
    subst e
    rw [if_neg (by simp)]
  | v :: l, _, i, fr, fr', e, .cons hv hl, t => by
    simp only [argsFr, Option.bind_eq_some_iff] at e
    obtain ⟨f1, e1, e2⟩ := e
    rw [args_fr e2 hl t, Tr.get_set e1]
    simp only [List.length_cons]
    by_cases q : t = i
    · subst q
      rw [if_neg (by omega), if_pos rfl, if_pos (by omega)]; simp
    · by_cases q2 : i + 1 ≤ t ∧ t < i + 1 + l.length
      · rw [if_pos q2, if_pos (by omega), show t - i = (t - (i + 1)) + 1 by omega, List.getElem?_cons_succ]
      · rw [if_neg q2, if_neg q, if_neg (by omega)]
theorem FR.start {l : List AV} {us : Array Value} {fr : Fr} (e : argsFr 0 l .nil = some fr) (hl : All2 (VR φ w) l us.toList) (hn : l.length ≤ N) :
    FR N φ w fr { tmps := us ++ Array.replicate (N - us.size) undef, defers := [] } := by
  have hs : us.size = l.length := by rw [← Array.length_toList]; exact hl.length.symm
  have g := args_fr e hl
  refine ⟨by simp; omega, ?_, ?_⟩
  · intro t ht
    rw [g t]
    refine .inr ?_
    show VR φ w _ ((us ++ Array.replicate (N - us.size) undef).getD t undef)
    rw [Array.getD_eq_getD_getElem?]
    by_cases q : t < l.length
    · rw [if_pos (by omega), Nat.sub_zero, Array.getElem?_append_left (by omega), List.getElem?_eq_getElem q]
      obtain ⟨b, h1, h2⟩ := hl.get t _ (List.getElem?_eq_getElem q)
      rw [Array.getElem?_toList] at h1
      rw [h1]
      exact h2
    · rw [if_neg (by omega), Array.getElem?_append_right (by omega)]
      simp only [Tr.get_nil, Option.getD_none]
      have : (Array.replicate (N - us.size) undef)[t - us.size]?.getD undef = undef := by
        cases hh : (Array.replicate (N - us.size) undef)[t - us.size]? with
        | none => rfl
        | some z =>
          rw [Array.getElem?_replicate] at hh
          split at hh
          · cases hh; rfl
          · cases hh
      rw [this]
      exact .u
  · intro t ht
    rw [g t, if_neg (by omega)]; exact Tr.get_nil t
theorem res_ok (H : HR base φ h w) {fr : Fr} {a : Act} (f : FR N φ w fr a) {r : ResultVar} {v : AV} (e : resA P h fr r = some v) :
    ∃ u, (match r with | .tmp t => pure (a.tmps.getD t undef) | .cell p t => do loadVar t (← asAddr (a.tmps.getD p undef)) : Sem Value).run P w = .ok u w ∧ VR φ w v u := by
  cases r with
  | tmp t =>
    simp only [resA, Option.bind_eq_some_iff] at e
    obtain ⟨x, hx, e⟩ := e
    have : t < N := by
      rcases Nat.lt_or_ge t N with q | q
      · exact q
      · rw [f.out t q] at hx; cases hx
    refine ⟨_, rfl, ?_⟩
    have g := f.get t this
    rw [hx] at g
    exact VRd.live g e
  | cell p t =>
    simp only [resA, Option.bind_eq_some_iff] at e
    obtain ⟨x, ⟨x0, hx, hlx⟩, e⟩ := e
    have hp : p < N := by
      rcases Nat.lt_or_ge p N with q | q
      · exact q
      · rw [f.out p q] at hx; cases hx
    have g0 := f.get p hp
    rw [hx] at g0
    have g := VRd.live g0 hlx
    clear g0
    obtain ⟨u, h1, h2⟩ := loadAt_ok (P := P) H g e
    refine ⟨u, ?_, h2⟩
    show (do loadVar t (← asAddr (a.tmps.getD p undef)) : Sem Value).run P w = .ok u w
    generalize a.tmps.getD p undef = pv at g h1 ⊢
    unfold loadV at e
    split at e
    case h_2 => cases e
    cases g with
    | ptr _ ad hL =>
      unfold Instr.loadAt at h1
      have r0 : (Instr.sureAddr (.pointer (some ad))).run P w = .ok ad w := rfl
      simp only [Sem.run_bind, r0, Result.andThen_ok] at h1
      simp only [Sem.run_bind, asAddr, Sem.run_pure, Result.andThen_ok]
      exact h1
theorem res_all {fr : Fr} {g : ResultVar → Sem Value} (hg : ∀ r v, resA P h fr r = some v → ∃ u, (g r).run P w = .ok u w ∧ VR φ w v u) : ∀ {rs : List ResultVar} {vs : List AV}, mapO (resA P h fr) rs = some vs →
    ∃ us, (rs.mapM g).run P w = .ok us w ∧ All2 (VR φ w) vs us
  | [], vs, e => by
    simp only [mapO, Option.some.injEq] at e
    subst e
    exact ⟨[], rfl, .nil⟩
  | r :: rs, vs, e => by
    simp only [mapO, Option.bind_eq_some_iff, Option.some.injEq] at e
    obtain ⟨v, hv, l, hl, rfl⟩ := e
    obtain ⟨u, h1, h2⟩ := hg r v hv
    obtain ⟨us, h3, h4⟩ := res_all hg hl
    exact ⟨u :: us, by simp [List.mapM_cons, h1, h3], .cons h2 h4⟩
theorem results_ok (H : HR base φ h w) {fr : Fr} {a : Act} (f : FR N φ w fr a) {fn : Func} {vs : List AV} (e : mapO (resA P h fr) fn.results.toList = some vs) :
    ∃ u, (results fn a.tmps).run P w = .ok u w ∧ VR φ w (tupA vs) u := by
  obtain ⟨us, h1, h2⟩ := res_all (g := fun r => match r with | .tmp t => pure (a.tmps.getD t undef) | .cell p t => do loadVar t (← asAddr (a.tmps.getD p undef))) (fun r v hr => res_ok H f hr) e
  unfold results
  rw [Array.mapM_eq_mapM_toList]
  simp only [Sem.run_bind, map_eq_pure_bind, Sem.run_pure]
  refine ⟨_, (congrArg (fun r => (Result.andThen r fun a w' => Result.ok a.toArray w').andThen fun a w' => Result.ok (if h : a.size = 1 then a[0] else Value.tuple a) w') h1).trans rfl, ?_⟩
  · match vs, us, h2 with
    | [], _, .nil => exact .tup _ _ .nil
    | [v], _, .cons hv .nil => exact hv
    | _ :: _ :: _, _, .cons hv (.cons hv' t) => exact VR.tup _ _ (.cons hv (.cons hv' t))
end
/-- no function is one that the machine's step answers by itself; regions draw among all orders -/
structure Plain (P : Program) : Prop where
  names : ∀ (f : FuncId) (fn : Func), P.funcs[f]? = some fn → (fn.name == "runtime.NumGoroutine") = false
  mixed : P.follows .mixedOrders = true
end Go.Vai
