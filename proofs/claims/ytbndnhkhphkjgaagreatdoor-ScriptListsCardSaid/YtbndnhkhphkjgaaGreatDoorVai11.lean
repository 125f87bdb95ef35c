/- The abstract machine: one operation. -/
import Derived.Test.YtbndnhkhphkjgaaGreatDoorVai10m
namespace Go.Vai
set_option linter.unusedVariables false
set_option linter.unusedSimpArgs false
set_option linter.unusedSectionVars false
variable [Lane]
variable {P : Program} {base : Nat} {φ φ' φ'' : Emb} {h h' h'' : Heap} {w w' w'' : World}

/-- what the model's operation answers, told by the machine's -/
def NextR (P : Program) (base : Nat) (φ : Emb) (h : Heap) (w : World) (r : ANext) (res : Result Next) : Prop :=
  match r with
  | .val v h' => ∃ φ' w' u, res = .ok (.value u) w' ∧ Step base φ h w φ' h' w' ∧ VR φ' w' v u
  | .skip h' => ∃ φ' w', res = .ok .skip w' ∧ Step base φ h w φ' h' w'
  | .enter f xs => ∃ us : Array Value, res = (callFunc f us).run P w ∧ All2 (VR φ w) xs us.toList

theorem pure_R (H : HR base φ h w) {o : Option AV} {r : ANext} (e : pureO h o = some r) {s : Sem Value} (hk : ∀ v, o = some v → ∃ u, s.run P w = .ok u w ∧ VR φ w v u) :
    NextR P base φ h w r ((do pure (.value (← s)) : Sem Next).run P w) := by
  unfold pureO at e
  simp only [Option.map_eq_some_iff] at e
  obtain ⟨v, hv, rfl⟩ := e
  obtain ⟨u, h1, h2⟩ := hk v hv
  exact ⟨φ, w, u, by simp only [Sem.run_bind, h1, Result.andThen_ok, Sem.run_pure], Step.refl H, h2⟩
theorem pair_R {o : Option (AV × Heap)} {r : ANext} (e : pairO o = some r) {s : Sem Value} (hk : ∀ v, o = some v → ∃ φ' w' u, s.run P w = .ok u w' ∧ Step base φ h w φ' v.2 w' ∧ VR φ' w' v.1 u) :
    NextR P base φ h w r ((do pure (.value (← s)) : Sem Next).run P w) := by
  unfold pairO at e
  simp only [Option.map_eq_some_iff] at e
  obtain ⟨⟨v, h'⟩, hv, rfl⟩ := e
  obtain ⟨φ', w', u, h1, h2, h3⟩ := hk _ hv
  exact ⟨φ', w', u, by simp only [Sem.run_bind, h1, Result.andThen_ok, Sem.run_pure], h2, h3⟩
theorem val_R {r : ANext} {s : Sem Value} (hk : ∃ v h' φ' w' u, r = .val v h' ∧ s.run P w = .ok u w' ∧ Step base φ h w φ' h' w' ∧ VR φ' w' v u) :
    NextR P base φ h w r ((do pure (.value (← s)) : Sem Next).run P w) := by
  obtain ⟨v, h', φ', w', u, rfl, h1, h2, h3⟩ := hk
  exact ⟨φ', w', u, by simp only [Sem.run_bind, h1, Result.andThen_ok, Sem.run_pure], h2, h3⟩
theorem opt_R {a : Act} {ρ : Rho} (hρ : ∀ x v, ρ x = some v → VR φ w v (a.eval x)) (x : Option Operand) {l : Option AV} (e : optO ρ x = some l) : OptR φ w l (x.map a.eval) := by
  unfold optO at e
  cases x with
  | none => cases e; first | exact .none | trivial
  | some x =>
    simp only [Option.map_eq_some_iff] at e
    obtain ⟨v, hv, rfl⟩ := e
    first | exact .some (hρ _ _ hv) | exact hρ _ _ hv
theorem args_all2 {a : Act} {ρ : Rho} (hρ : ∀ x v, ρ x = some v → VR φ w v (a.eval x)) (xs : Array Operand) {l : List AV} (e : mapO ρ xs.toList = some l) : All2 (VR φ w) l (xs.map a.eval).toList := by
  rw [Array.toList_map]
  exact mapO_all2 _ _ (fun x _ v hv => hρ x v hv) e
theorem len_ok {ts : Array TypeId} {t ty : TypeId} (h0 : ts[0]? = some t) {x v : AV} {xv : Value} (hx : VR φ w x xv) (e : lenT P t x = some v) : ∃ u, (Builtin.len_ ts ty #[xv]).run P w = .ok u w ∧ VR φ w v u := by
  unfold lenT at e
  split at e
  · rename_i hu
    split at e
    · cases e; cases hx
      refine ⟨_, ?_, .int .i64 _⟩
      simp only [Builtin.len_, h0, List.getElem?_toArray, List.getElem?_cons_zero, Sem.run_bind, run_underlying hu, Result.andThen_ok, Sem.run_pure]; rfl
    · cases e
  · rename_i hu
    split at e
    · cases e
      cases hx <;> exact ⟨_, by simp [Builtin.len_, h0, run_underlying hu, goInt], .int .i64 _⟩
    · cases e
  · cases e
theorem one_arr {x : AV} {as : Array Value} (k : All2 (VR φ w) [x] as.toList) : ∃ v, as = #[v] ∧ VR φ w x v := by
  obtain ⟨l⟩ := as
  cases k with
  | cons h t => cases t; exact ⟨_, rfl, h⟩
theorem two_arr {x y : AV} {as : Array Value} (k : All2 (VR φ w) [x, y] as.toList) : ∃ u v, as = #[u, v] ∧ VR φ w x u ∧ VR φ w y v := by
  obtain ⟨l⟩ := as
  cases k with
  | cons h t => cases t with
    | cons h' t => cases t; exact ⟨_, _, rfl, h, h'⟩
theorem eqA_vecR (t : TypeId) (p : AV) (l : List AV) : eqA P t p (.vec l) = none := by unfold eqA; split <;> simp_all
theorem eqA_vecL (t : TypeId) (p : AV) (l : List AV) : eqA P t (.vec l) p = none := by unfold eqA; split <;> simp_all
theorem binT_vecR (op : BinOp) (t : TypeId) (p : AV) (l : List AV) : binT P op t p (.vec l) = none := by
  have e := eqA_vecR (P := P) t p l
  cases op <;> simp only [binT] <;> cases p <;> simp_all [addA, int2, eqlA, neqA]
theorem binT_vecL (op : BinOp) (t : TypeId) (p : AV) (l : List AV) : binT P op t (.vec l) p = none := by
  have e := eqA_vecL (P := P) t p l
  cases op <;> simp only [binT] <;> simp_all [addA, int2, eqlA, neqA]
theorem guard_ok {op : BinOp} {t : TypeId} {x y : Operand} {p q v : AV} {pv qv : Value} (hp : VR φ w p pv) (hq : VR φ w q qv) (hn : nilOk (isConstO x || isConstO y) p q = true) (e : binT P op t p q = some v) : (eqGuard op t x y pv qv).run P w = .ok () w := by
  by_cases hvp : ∃ l, p = .vec l
  · obtain ⟨l, rfl⟩ := hvp; rw [binT_vecL] at e; cases e
  by_cases hvq : ∃ l, q = .vec l
  · obtain ⟨l, rfl⟩ := hvq; rw [binT_vecR] at e; cases e
  by_cases ha : (∃ cs cs', p = .agg cs ∧ q = .agg cs')
  · obtain ⟨cs, cs', rfl, rfl⟩ := ha
    exfalso
    unfold binT at e
    have ea : eqA P t (.agg cs) (.agg cs') = none := by unfold eqA; split <;> simp_all
    split at e <;> simp [addA, int2, eqlA, neqA, ea] at e
  · unfold eqGuard
    cases hp <;> cases hq <;> first | (exfalso; exact ha ⟨_, _, rfl, rfl⟩) | (exfalso; exact hvp ⟨_, rfl⟩) | (exfalso; exact hvq ⟨_, rfl⟩) | (split <;> first | (simp; done) | (simp [undef]; done)) | (cases x <;> cases y <;> simp [nilOk, isConstO] at hn ⊢)
theorem clear_R (H : HR base φ h w) {ts : Array TypeId} {t ty : TypeId} {cs : Array Bool} (h0 : ts[0]? = some t) {x : AV} {xv : Value} (hx : VR φ w x xv) {r : ANext} (e : clearA P t h x = some r) :
    NextR P base φ h w r ((builtin .clear ts ty cs #[xv]).run P w) := val_R (clear_ok (ty := ty) H h0 hx e)
theorem builtin_ok (H : HR base φ h w) {b : Builtin} {ts : Array TypeId} {ty : TypeId} {cs : Array Bool} {xs : List AV} {as : Array Value} (ha : All2 (VR φ w) xs as.toList) {r : ANext} (e : builtinA P b ts h xs = some r) :
    NextR P base φ h w r ((builtin b ts ty cs as).run P w) := by
  unfold builtinA at e
  split at e
  · unfold one1 at e
    split at e
    case h_2 => cases e
    simp only [Option.bind_eq_some_iff] at e
    obtain ⟨t, h0, e⟩ := e
    obtain ⟨v, rfl, hv⟩ := one_arr ha
    exact pure_R H e fun z hz => len_ok h0 hv hz
  · unfold two2 at e
    split at e
    case h_2 => cases e
    simp only [Option.bind_eq_some_iff] at e
    obtain ⟨t, h0, u, h1, e⟩ := e
    split at e
    case isFalse => cases e
    rename_i hm
    obtain ⟨v, v', rfl, hv, hv'⟩ := two_arr ha
    exact pair_R e fun z hz => append_ok H h0 h1 hm hv hv' hz
  · unfold two2 at e
    split at e
    case h_2 => cases e
    simp only [Option.bind_eq_some_iff] at e
    obtain ⟨t, h0, e⟩ := e
    obtain ⟨v, v', rfl, hv, hv'⟩ := two_arr ha
    exact pair_R e fun z hz => by
      obtain ⟨w', u, q1, q2, q3⟩ := copy_ok (P := P) (ty := ty) H h0 hv hv' hz
      exact ⟨φ, w', u, q1, q2, q3⟩
  · unfold one1 at e
    split at e
    case h_2 => cases e
    simp only [Option.bind_eq_some_iff] at e
    obtain ⟨t, h0, e⟩ := e
    obtain ⟨v, rfl, hv⟩ := one_arr ha
    exact clear_R H h0 hv e
  · unfold two2 at e
    split at e
    case h_2 => cases e
    obtain ⟨v, v', rfl, hv, hv'⟩ := two_arr ha
    exact pure_R H e fun z hz => by
      unfold int2 at hz
      split at hz
      case h_2 => cases hz
      split at hz
      case h_2 => cases hz
      cases hv; cases hv'
      split at hz
      case isFalse => cases hz
      cases hz
      exact ⟨_, by simp [Builtin.min_, Builtin.min2], .int _ _⟩
  · unfold two2 at e
    split at e
    case h_2 => cases e
    obtain ⟨v, v', rfl, hv, hv'⟩ := two_arr ha
    exact pure_R H e fun z hz => by
      unfold int2 at hz
      split at hz
      case h_2 => cases hz
      split at hz
      case h_2 => cases hz
      cases hv; cases hv'
      split at hz
      case isFalse => cases hz
      cases hz
      exact ⟨_, by simp [Builtin.max_, Builtin.max2], .int _ _⟩
  · cases e
theorem op_ok0 (H : HR base φ h w) {a : Act} {ρ : Rho} (hρ : ∀ x v, ρ x = some v → VR φ w v (a.eval x)) {o : Oper} {r : ANext} (e : aop0 P ρ h o = some r) :
    NextR P base φ h w r ((execOp a.eval o).run P w) := by
  unfold aop0 opA at e
  unfold execOp
  cases ho : o.op <;> simp only [ho] at e ⊢ <;> try (exact absurd e (by simp [oNone]))
  case move x =>
    unfold oMove pureO at e
    simp only [Option.map_eq_some_iff] at e
    obtain ⟨v, hv, rfl⟩ := e
    exact ⟨φ, w, _, rfl, Step.refl H, hρ _ _ hv⟩
  case assign x =>
    unfold oMove pureO at e
    simp only [Option.map_eq_some_iff] at e
    obtain ⟨v, hv, rfl⟩ := e
    exact ⟨φ, w, _, rfl, Step.refl H, hρ _ _ hv⟩
  case pick c x y =>
    unfold oPick at e
    simp only [Option.bind_eq_some_iff] at e
    obtain ⟨b, hb0, e⟩ := e
    have hb := hρ _ _ hb0
    clear hb0
    unfold pickV at e
    split at e
    case h_2 => cases e
    rename_i t
    unfold pureO at e
    simp only [Option.map_eq_some_iff] at e
    obtain ⟨v, hv, rfl⟩ := e
    have hv := hρ _ _ hv
    generalize a.eval c = cv at hb ⊢
    cases hb
    refine ⟨φ, w, _, ?_, Step.refl H, hv⟩
    cases t <;> rfl
  case build t parts =>
    obtain ⟨v, u, h1, h2, h3⟩ := build_ok hρ e
    exact val_R ⟨v, h, φ, w, u, h1, h2, Step.refl H, h3⟩
  case buildSlice t len parts => exact val_R (buildSlice_ok H hρ e)
  case load t x =>
    unfold oLoad at e
    simp only [Option.bind_eq_some_iff] at e
    obtain ⟨p, hp, e⟩ := e
    exact pure_R H e fun v hv => loadAt_ok H (hρ _ _ hp) hv
  case store t x y =>
    unfold oStore at e
    simp only [Option.bind_eq_some_iff, Option.map_eq_some_iff] at e
    obtain ⟨p, hp, v, hv, h', hs, rfl⟩ := e
    obtain ⟨w', h1, h2, _⟩ := storeAt_ok (P := P) H (hρ _ _ hp) (hρ _ _ hv) hs
    exact ⟨φ, w', by simp only [Sem.run_bind, h1, Result.andThen_ok, Sem.run_pure], h2⟩
  case convert s d x =>
    unfold oConvert at e
    simp only [Option.bind_eq_some_iff] at e
    obtain ⟨p, hp, e⟩ := e
    exact pair_R e fun v hv => convert_ok H (hρ _ _ hp) hv
  case unOp op t x =>
    unfold oUn at e
    simp only [Option.bind_eq_some_iff] at e
    obtain ⟨p, hp, e⟩ := e
    exact pure_R H e fun v hv => unA_ok (hρ _ _ hp) hv
  case fieldAddr t x f =>
    unfold oFieldAddr at e
    simp only [Option.bind_eq_some_iff] at e
    obtain ⟨p, hp, e⟩ := e
    exact pure_R H e fun v hv => fieldAddrA_ok (hρ _ _ hp) hv
  case field t x f =>
    unfold oField at e
    simp only [Option.bind_eq_some_iff] at e
    obtain ⟨p, hp, e⟩ := e
    exact pure_R H e fun v hv => fieldA_ok (hρ _ _ hp) hv
  case indexAddr t x i =>
    unfold oIndexAddr at e
    simp only [Option.bind_eq_some_iff] at e
    obtain ⟨p, hp, q, hq, e⟩ := e
    exact pure_R H e fun v hv => indexAddrA_ok (hρ _ _ hp) (hρ _ _ hq) hv
  case index t x i =>
    unfold oIndex at e
    simp only [Option.bind_eq_some_iff] at e
    obtain ⟨p, hp, q, hq, e⟩ := e
    exact pure_R H e fun v hv => indexA_ok (hρ _ _ hp) (hρ _ _ hq) hv
  case range t x =>
    unfold oRange at e
    simp only [Option.bind_eq_some_iff] at e
    obtain ⟨p, hp, e⟩ := e
    exact val_R (rangeV_ok H (hρ _ _ hp) e)
  case makeSlice t l c =>
    unfold oMakeSlice at e
    split at e
    case h_2 => cases e
    rename_i el hu
    simp only [Option.bind_eq_some_iff] at e
    obtain ⟨p, hp, q, hq, e⟩ := e
    exact val_R (makeSlice_ok H hu (hρ _ _ hp) (hρ _ _ hq) e)
  case slice t x lo hi mx =>
    unfold oSlice at e
    cases mx with
    | some _ => cases e
    | none =>
    simp only [Option.bind_eq_some_iff] at e
    obtain ⟨p, hp, l1, hl1, l2, hl2, e⟩ := e
    exact pure_R H e fun v hv => sliceA_ok (hρ _ _ hp) (opt_R hρ lo hl1) (opt_R hρ hi hl2) hv
  case next x st =>
    unfold oNext at e
    cases st with
    | false =>
      simp only [cond_false, Option.bind_eq_some_iff] at e
      obtain ⟨p, hp, e⟩ := e
      exact pair_R e fun v hv => by
        obtain ⟨w', u, q1, q2, q3⟩ := nextM_ok (P := P) (ty := o.type) H (hρ _ _ hp) hv
        exact ⟨φ, w', u, q1, q2, q3⟩
    | true =>
    simp only [cond_true, Option.bind_eq_some_iff] at e
    obtain ⟨p, hp, e⟩ := e
    exact pair_R e fun v hv => by
      obtain ⟨w', u, q1, q2, q3⟩ := nextA_ok (P := P) (ty := o.type) H (hρ _ _ hp) hv
      exact ⟨φ, w', u, q1, q2, q3⟩
  case binOp op t x y u =>
    unfold oBin at e
    simp only [Option.bind_eq_some_iff] at e
    obtain ⟨p, hp, q, hq, e⟩ := e
    exact pure_R H e fun v hv => by
      cases hn : nilOk (isConstO x || isConstO y) p q with
      | false => rw [hn] at hv; cases hv
      | true =>
      rw [hn, cond_true] at hv
      obtain ⟨u, h1, h2⟩ := binT_ok (P := P) (hρ _ _ hp) (hρ _ _ hq) hv
      have hg : (eqGuard op t x y (a.eval x) (a.eval y)).run P w = .ok () w := by
        exact guard_ok (hρ _ _ hp) (hρ _ _ hq) hn hv
      exact ⟨u, by simp only [Sem.run_bind, hg, Result.andThen_ok, h1], h2⟩
  case extract x i =>
    unfold oExtract at e
    simp only [Option.bind_eq_some_iff] at e
    obtain ⟨p, hp0, e⟩ := e
    have hp := hρ _ _ hp0
    clear hp0
    unfold extV at e
    split at e
    case h_2 => cases e
    generalize a.eval x = xv at hp ⊢
    cases hp with
    | tup cs vs hcs =>
    exact pure_R H e fun v hv => by
      obtain ⟨u, q1, q2⟩ := hcs.get _ _ hv
      refine ⟨u, ?_, q2⟩
      simp [Instr.extract, q1]
  case nilCheck x =>
    unfold oNilCheck at e
    simp only [Option.bind_eq_some_iff] at e
    obtain ⟨p, hp0, e⟩ := e
    have hp := hρ _ _ hp0
    clear hp0
    unfold nilV at e
    generalize a.eval x = xv at hp ⊢
    split at e
    · cases e
      cases hp with
      | ptr _ ad hl => exact ⟨φ, w, _, rfl, Step.refl H, .ptr _ _ hl⟩
    · cases e
      cases hp with
      | func f cs vs hcs => exact ⟨φ, w, _, rfl, Step.refl H, .func _ _ _ hcs⟩
    · cases e
  case alloc el =>
    unfold oAlloc at e
    simp only [Option.bind_eq_some_iff] at e
    obtain ⟨z, hz, e⟩ := e
    obtain ⟨zv, z1, z2⟩ := run_zeroT hz w
    obtain ⟨v, h', rfl, φ', w', ad, q1, q2, q3⟩ := newVal_ok (P := P) (t := el) H (z2 φ w) e
    refine val_R ⟨v, h', φ', w', .pointer (some ad), rfl, ?_, q2, q3⟩
    simp only [Instr.alloc, Sem.run_bind, z1, q1, Result.andThen_ok, Sem.run_pure]
  case box el x =>
    unfold oBox at e
    simp only [Option.bind_eq_some_iff] at e
    obtain ⟨z, hz, e⟩ := e
    obtain ⟨v, h', rfl, φ', w', ad, q1, q2, q3⟩ := newVal_ok (P := P) (t := el) H (hρ _ _ hz) e
    refine val_R ⟨v, h', φ', w', .pointer (some ad), rfl, ?_, q2, q3⟩
    simp only [Instr.box, Sem.run_bind, q1, Result.andThen_ok, Sem.run_pure]
  case makeFunc fn first caps =>
    unfold oMakeFunc at e
    split at e
    case h_2 => cases e
    rename_i f
    split at e
    case isFalse => cases e
    rename_i hf
    simp only [Option.bind_eq_some_iff, Option.some.injEq] at e
    obtain ⟨cs, hcs, rfl⟩ := e
    have : first = #[] := by simpa using hf
    subst this
    exact ⟨φ, w, .func (.func f) #[] (caps.map a.eval), by simp [Instr.makeFunc], Step.refl H, .func f cs _ (by have := args_all2 hρ caps hcs; exact this)⟩
  case entry x =>
    unfold oEntry at e
    simp only [Option.bind_eq_some_iff] at e
    obtain ⟨p, hp, e⟩ := e
    exact pure_R H e fun v hv => entryM_ok H (hρ _ _ hp) hv
  case makeMap t r =>
    unfold oMakeMap at e
    cases r with
    | some _ => cases e
    | none => exact val_R (makeMap_ok (t := t) H e)
  case lookup t x i ok =>
    unfold oLookup at e
    split at e
    case h_2 => cases e
    rename_i kt el hu
    simp only [Option.bind_eq_some_iff] at e
    obtain ⟨m, hm, k, hk, e⟩ := e
    exact pure_R H e fun v hv => lookup_ok H hu (hρ _ _ hm) (hρ _ _ hk) hv
  case mapUpdate t m k x =>
    unfold oMapUpdate at e
    split at e
    case h_2 => cases e
    rename_i kt el hu
    simp only [Option.bind_eq_some_iff, Option.map_eq_some_iff] at e
    obtain ⟨mv, hm, kv, hk, v, hv, h', hs, rfl⟩ := e
    obtain ⟨w', h1, h2⟩ := update_ok (P := P) H hu (hρ _ _ hm) (hρ _ _ hk) (hρ _ _ hv) hs
    exact ⟨φ, w', by simp only [Sem.run_bind, h1, Result.andThen_ok, Sem.run_pure], h2⟩
  case insert t m k x =>
    unfold oMapUpdate at e
    split at e
    case h_2 => cases e
    rename_i kt el hu
    simp only [Option.bind_eq_some_iff, Option.map_eq_some_iff] at e
    obtain ⟨mv, hm, kv, hk, v, hv, h', hs, rfl⟩ := e
    obtain ⟨w', h1, h2⟩ := update_ok (P := P) H hu (hρ _ _ hm) (hρ _ _ hk) (hρ _ _ hv) hs
    exact ⟨φ, w', by simp only [Sem.run_bind, h1, Result.andThen_ok, Sem.run_pure], h2⟩
  case call c =>
    unfold oCall at e
    simp only [Option.bind_eq_some_iff] at e
    obtain ⟨xs, hxs, e⟩ := e
    have hargs := args_all2 hρ c.args hxs
    simp only [resolve]
    generalize c.args.map a.eval = as at hargs ⊢
    split at e
    · rename_i b hc
      simp only [hc, Sem.run_bind, Sem.run_pure, Result.andThen_ok, invoke]
      exact builtin_ok H hargs e
    · rename_i x hc
      simp only [Option.bind_eq_some_iff] at e
      obtain ⟨f, hf, e⟩ := e
      have hfv := hρ _ _ hf
      clear hf
      unfold enterV at e
      split at e
      case h_2 => cases e
      rename_i g caps
      cases e
      simp only [hc, Sem.run_bind]
      generalize a.eval x = fv at hfv ⊢
      cases hfv with
      | func _ _ vs hcs =>
      refine ⟨as ++ ⟨vs⟩, ?_, ?_⟩
      · simp [Deferred.ofValue, invoke]
      · rw [Array.toList_append]; exact hargs.append hcs
    · cases e
end Go.Vai
