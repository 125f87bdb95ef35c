/- The abstract machine: operations done lane by lane. -/
import Derived.Test.YtbndnhkhphkjgaaGreatDoorVai11m
namespace Go.Vai
set_option linter.unusedVariables false
set_option linter.unusedSimpArgs false
set_option linter.unusedSectionVars false
variable [Lane]
namespace Tr
variable {α β : Type}
theorem root_map (f : α → β) (t : Tr α) : rootB.f (t.map f) = (rootB.f t).map f := by rcases t with _ | ⟨v, ⟨⟩⟩ <;> rfl
theorem ch_map (f : α → β) (t : Tr α) {d : Nat} (h : d < 16) : (chB d).f (t.map f) = ((chB d).f t).map f := by
  rcases lt16 h with rfl|rfl|rfl|rfl|rfl|rfl|rfl|rfl|rfl|rfl|rfl|rfl|rfl|rfl|rfl|rfl <;> rcases t with _ | ⟨v, ⟨⟩⟩ <;> rfl
theorem getB_map (f : α → β) : ∀ (n k : Nat) (t : Tr α), (getB n k).f (t.map f) = ((getB n k).f t).map f
  | 0, k, t => rfl
  | n + 1, k, t => by
    by_cases h0 : k = 0
    · subst h0; rw [getB_zero, getB_zero]; exact root_map f t
    · rw [getB_pos n h0, getB_pos n h0, ch_map f t (Nat.mod_lt _ (by decide)), getB_map f n]
theorem get_map (f : α → β) (t : Tr α) (k : Nat) : (t.map f).get k = (t.get k).map f := getB_map f 44 k t
end Tr
variable {P : Program} {base : Nat} {φ φ' φ'' : Emb} {h h' h'' : Heap} {w w' w'' : World}
theorem projH_get (j : Nat) (h : Heap) (b : Nat) : (projH j h).objs.get b = (h.objs.get b).map (projO j) := Tr.get_map _ _ _
theorem atC_get {j : Nat} {cs : Tr (Nat × AV)} {i lo : Nat} {v : AV} (e : (cs.map (atC j)).get i = some (lo, v)) : ∃ v0, cs.get i = some (lo, v0) ∧ v = atL j v0 := by
  rw [Tr.get_map] at e
  simp only [Option.map_eq_some_iff] at e
  obtain ⟨⟨lo', v0⟩, h1, h2⟩ := e
  simp only [atC, Prod.mk.injEq] at h2
  obtain ⟨rfl, rfl⟩ := h2
  exact ⟨v0, h1, rfl⟩
theorem projO_cells {j : Nat} {x : AObj} {ro : Bool} {gen : Nat} {cs : Tr (Nat × AV)} (e : projO j x = .cells ro gen cs) : ∃ cs0, x = .cells ro gen cs0 ∧ cs = cs0.map (atC j) := by
  cases x <;> simp only [projO] at e <;> first | cases e | skip
  exact ⟨_, rfl, rfl⟩
theorem HR.lane (H : HR base φ h w) : HR base φ (projH Lane.l h) w := by
  refine ⟨fun b hb => ⟨?_, (H.fresh b hb).2⟩, H.low, H.range, H.inj, ?_, ?_, ?_⟩
  · rw [projH_get, (H.fresh b hb).1]; rfl
  · intro b ro gen cs e i lo v hi
    rw [projH_get] at e
    simp only [Option.map_eq_some_iff] at e
    obtain ⟨x, hx, e⟩ := e
    obtain ⟨cs0, rfl, rfl⟩ := projO_cells e
    obtain ⟨v0, h1, _⟩ := atC_get hi
    exact H.los _ _ _ _ hx _ _ _ h1
  · intro b ro gen cs g c e hc
    rw [projH_get] at e
    simp only [Option.map_eq_some_iff] at e
    obtain ⟨x, hx, e⟩ := e
    obtain ⟨cs0, rfl, rfl⟩ := projO_cells e
    obtain ⟨p1, p2, p3, arr, t, fz, pa, pf, pk⟩ := H.cells _ _ _ _ _ _ hx hc
    refine ⟨p1, p2, ?_, arr, t, fz, pa, pf, ?_⟩
    · intro i lo v hi
      obtain ⟨v0, h1, _⟩ := atC_get hi
      exact p3 _ _ _ h1
    · intro i lo v hi hle hai hie
      obtain ⟨v0, h1, rfl⟩ := atC_get hi
      obtain ⟨u, r1, r2, r3⟩ := pk i lo v0 h1 hle hai hie
      exact ⟨u, r1, r2.lane, oneCell_lane r2 r3⟩
  · intro b x g c e hx hc
    rw [projH_get] at e
    simp only [Option.map_eq_some_iff] at e
    obtain ⟨y, hy, e⟩ := e
    have : y = x := by
      cases y <;> simp only [projO] at e <;> first | exact e | skip
      rw [← e] at hx; cases hx
    subst this
    exact H.other _ _ _ _ hy hx hc
/-- an operation that only answers -/
def ValP (P : Program) (φ : Emb) (h : Heap) (w : World) (r : ANext) (res : Result Next) : Prop := ∃ v u, r = .val v h ∧ res = .ok (.value u) w ∧ VR φ w v u
theorem pure_P {o : Option AV} {r : ANext} (e : pureO h o = some r) {s : Sem Value} (hk : ∀ v, o = some v → ∃ u, s.run P w = .ok u w ∧ VR φ w v u) :
    ValP P φ h w r ((do pure (.value (← s)) : Sem Next).run P w) := by
  unfold pureO at e
  simp only [Option.map_eq_some_iff] at e
  obtain ⟨v, hv, rfl⟩ := e
  obtain ⟨u, h1, h2⟩ := hk v hv
  exact ⟨v, u, rfl, by simp only [Sem.run_bind, h1, Result.andThen_ok, Sem.run_pure], h2⟩
theorem pairP_P {o : Option (AV × Heap)} {r : ANext} (e : pairO o = some r) {s : Sem Value} (hk : ∀ v, o = some v → ∃ u, s.run P w = .ok u w ∧ v.2 = h ∧ VR φ w v.1 u) :
    ValP P φ h w r ((do pure (.value (← s)) : Sem Next).run P w) := by
  unfold pairO at e
  simp only [Option.map_eq_some_iff] at e
  obtain ⟨⟨v, h'⟩, hv, rfl⟩ := e
  obtain ⟨u, h1, h2, h3⟩ := hk _ hv
  simp only at h2
  subst h2
  exact ⟨v, u, rfl, by simp only [Sem.run_bind, h1, Result.andThen_ok, Sem.run_pure], h3⟩
theorem convertP_ok (H : HR base φ h w) {src dst : TypeId} {x : AV} {xv : Value} (hx : VR φ w x xv) {r : AV × Heap} (e : convertA P h src dst x = some r) (hd0 : (match P.underlying dst with | some (.int _) | some .string => true | _ => false) = true) :
    ∃ v, (convert src dst xv).run P w = .ok v w ∧ r.2 = h ∧ VR φ w r.1 v := by
  unfold convertA at e
  split at e
  · cases e
  rename_i hsome
  obtain ⟨us, hs⟩ : ∃ us, P.underlying src = some us := by
    cases q : P.underlying src with
    | none => rw [q] at hsome; simp at hsome
    | some us => exact ⟨us, rfl⟩
  split at e
  · split at e
    · rename_i k n _ k' hd
      cases e; cases hx
      refine ⟨_, ?_, rfl, .int _ _⟩
      simp [convert, run_underlying hs, run_underlying hd, Conv.intToInt]
    · cases e
  · rename_i l
    split at e
    · rename_i hd
      cases e; cases hx
      refine ⟨_, ?_, rfl, .str _⟩
      simp [convert, run_underlying hs, run_underlying hd]
    · rename_i el hd
      rw [hd] at hd0; cases hd0
    · cases e
  · split at e
    case h_2 => cases e
    rename_i el hd
    rw [hd] at hd0; cases hd0
  · rename_i a n room sz
    split at e
    case h_2 => cases e
    rename_i el hsl
    split at e
    case h_3 => cases e
    case h_2 =>
      rename_i e' hd
      rw [hd] at hd0; cases hd0
    rename_i hd
    split at e
    case h_2 => cases e
    rename_i he
    split at e
    · cases e; cases hx
      refine ⟨_, ?_, rfl, .str []⟩
      rw [run_convert_bytes_string w src dst el _ _ _ hsl he hd]
      rfl
    · rename_i a
      split at e
      case isFalse => cases e
      rename_i hsz
      subst hsz
      simp only [Option.bind_eq_some_iff, Option.map_eq_some_iff] at e
      obtain ⟨vs, hvs, l, hl, rfl⟩ := e
      cases hx with
      | slice _ ad _ _ _ cap g1 g2 g3 g4 g5 =>
      have key : ∃ us : List Value, (loadCells ad n).run P w = .ok us.toArray w ∧ All2 (VR φ w) vs us := by
        rcases g5 with g5 | ⟨g5, _⟩
        · have : n = 0 := by omega
          subst this
          simp only [loadN, Option.some.injEq] at hvs
          subst hvs
          exact ⟨[], by simp [loadCells, loadCellsFrom], .nil⟩
        · obtain ⟨us, q1, q2, _⟩ := loadN_cells (P := P) H g5 n 0 vs #[] hvs
          exact ⟨us, by simpa [loadCells] using q1, q2⟩
      obtain ⟨us, q1, q2⟩ := key
      obtain ⟨ns, rfl, rfl⟩ := bytes_read q2 hl
      refine ⟨.string ⟨⟨ns.map fun n => UInt8.ofNat n.toNat⟩⟩, ?_, rfl, .str _⟩
      rw [run_convert_bytes_string w src dst el _ _ _ hsl he hd, run_bytesToString w ad n cap ns q1]
      have := fold_push ns []
      rw [List.nil_append] at this
      rw [← this]; rfl
  · cases e
theorem op_pure0 (H : HR base φ h w) {a : Act} {ρ : Rho} (hρ : ∀ x v, ρ x = some v → VR φ w v (a.eval x)) {o : Oper} {r : ANext} (hp : pureL P o = true) (e : aop0 P ρ h o = some r) :
    ValP P φ h w r ((execOp a.eval o).run P w) := by
  unfold pureL at hp
  unfold aop0 opA at e
  unfold execOp
  cases ho : o.op <;> simp only [ho] at e hp ⊢ <;> try (exact absurd hp (by decide))
  case load t x =>
    unfold oLoad at e
    simp only [Option.bind_eq_some_iff] at e
    obtain ⟨p, hp, e⟩ := e
    exact pure_P e fun v hv => loadAt_ok H (hρ _ _ hp) hv
  case convert s d x =>
    unfold oConvert at e
    simp only [Option.bind_eq_some_iff] at e
    obtain ⟨p, hp', e⟩ := e
    exact pairP_P e fun v hv => convertP_ok H (hρ _ _ hp') hv hp
  case unOp op t x =>
    unfold oUn at e
    simp only [Option.bind_eq_some_iff] at e
    obtain ⟨p, hp, e⟩ := e
    exact pure_P e fun v hv => unA_ok (hρ _ _ hp) hv
  case fieldAddr t x f =>
    unfold oFieldAddr at e
    simp only [Option.bind_eq_some_iff] at e
    obtain ⟨p, hp, e⟩ := e
    exact pure_P e fun v hv => fieldAddrA_ok (hρ _ _ hp) hv
  case indexAddr t x i =>
    unfold oIndexAddr at e
    simp only [Option.bind_eq_some_iff] at e
    obtain ⟨p, hp, q, hq, e⟩ := e
    exact pure_P e fun v hv => indexAddrA_ok (hρ _ _ hp) (hρ _ _ hq) hv
  case index t x i =>
    unfold oIndex at e
    simp only [Option.bind_eq_some_iff] at e
    obtain ⟨p, hp, q, hq, e⟩ := e
    exact pure_P e fun v hv => indexA_ok (hρ _ _ hp) (hρ _ _ hq) hv
  case slice t x lo hi mx =>
    unfold oSlice at e
    cases mx with
    | some _ => cases e
    | none =>
    simp only [Option.bind_eq_some_iff] at e
    obtain ⟨p, hp, l1, hl1, l2, hl2, e⟩ := e
    exact pure_P e fun v hv => sliceA_ok (hρ _ _ hp) (opt_R hρ lo hl1) (opt_R hρ hi hl2) hv
  case binOp op t x y u =>
    unfold oBin at e
    simp only [Option.bind_eq_some_iff] at e
    obtain ⟨p, hp, q, hq, e⟩ := e
    exact pure_P e fun v hv => by
      cases hn : nilOk (isConstO x || isConstO y) p q with
      | false => rw [hn] at hv; cases hv
      | true =>
      rw [hn, cond_true] at hv
      obtain ⟨u, h1, h2⟩ := binT_ok (P := P) (hρ _ _ hp) (hρ _ _ hq) hv
      have hg : (eqGuard op t x y (a.eval x) (a.eval y)).run P w = .ok () w := by
        exact guard_ok (hρ _ _ hp) (hρ _ _ hq) hn hv
      exact ⟨u, by simp only [Sem.run_bind, hg, Result.andThen_ok, h1], h2⟩
  case lookup t x i ok =>
    unfold oLookup at e
    split at e
    case h_2 => cases e
    rename_i kt el hu
    simp only [Option.bind_eq_some_iff] at e
    obtain ⟨m, hm, k, hk, e⟩ := e
    exact pure_P e fun v hv => lookup_ok H hu (hρ _ _ hm) (hρ _ _ hk) hv
  case call c =>
    unfold oCall at e
    simp only [Option.bind_eq_some_iff] at e
    obtain ⟨xs, hxs, e⟩ := e
    have hargs := args_all2 hρ c.args hxs
    simp only [resolve]
    generalize c.args.map a.eval = as at hargs ⊢
    split at e
    · rename_i b hc
      rw [hc] at hp
      cases b <;> simp only at hp <;> try (exact absurd hp (by decide))
      simp only [hc, Sem.run_bind, Sem.run_pure, Result.andThen_ok, invoke]
      unfold builtinA one1 at e
      simp only at e
      split at e
      case h_2 => cases e
      simp only [Option.bind_eq_some_iff] at e
      obtain ⟨t, ht, e⟩ := e
      obtain ⟨v, rfl, hv⟩ := one_arr hargs
      have r0 := pure_P (P := P) (φ := φ) (w := w) (h := h) e (s := Builtin.len_ c.argTypes o.type #[v]) fun y hy => len_ok (P := P) (ty := o.type) ht hv hy
      obtain ⟨y, u, q1, q2, q3⟩ := r0
      refine ⟨y, u, q1, ?_, q3⟩
      rw [← q2]
      rfl
    · rename_i x hc; rw [hc] at hp; cases hp
    · cases e
theorem laneR_ok {a : Act} {ρ : Rho} (hρ : ∀ x v, ρ x = some v → VR φ w v (a.eval x)) (x : Operand) (v : AV) (e : laneR Lane.l ρ x = some v) : VR φ w v (a.eval x) := by
  unfold laneR at e
  simp only [Option.map_eq_some_iff] at e
  obtain ⟨v0, h1, rfl⟩ := e
  exact (hρ _ _ h1).laneV
theorem orElseL_some {x y : Option ANext} {r : ANext} (e : orElseL x y = some r) : x = some r ∨ (x = none ∧ y = some r) := by
  cases x with
  | none => exact .inr ⟨rfl, e⟩
  | some x => exact .inl e
theorem lanes_ok (H : HR base φ h w) {a : Act} {ρ : Rho} (hρ : ∀ x v, ρ x = some v → VR φ w v (a.eval x)) {o : Oper} {r : ANext} (e : lanesA P ρ h o = some r) :
    ValP P φ h w r ((execOp a.eval o).run P w) := by
  unfold lanesA at e
  cases hp : pureL P o with
  | false => rw [hp] at e; cases e
  | true =>
  rw [hp, cond_true] at e
  simp only [Option.map_eq_some_iff, Option.bind_eq_some_iff] at e
  obtain ⟨v, ⟨rs, hrs, hv⟩, rfl⟩ := e
  obtain ⟨y, k1, k2⟩ := mapO_at hrs Lane.l Lane.l (range_at Lane.lt)
  unfold laneV valO at k2
  split at k2
  case h_2 => cases k2
  rename_i v0 h0 hop
  cases k2
  obtain ⟨v1, u, q1, q2, q3⟩ := op_pure0 H.lane (laneR_ok hρ) hp hop
  cases q1
  exact ⟨v, u, rfl, q2, collapse_ok hv k1 q3⟩
theorem op_ok (H : HR base φ h w) {a : Act} {ρ : Rho} (hρ : ∀ x v, ρ x = some v → VR φ w v (a.eval x)) {o : Oper} {r : ANext} (e : aop P ρ h o = some r) :
    NextR P base φ h w r ((execOp a.eval o).run P w) := by
  rcases orElseL_some e with e | ⟨_, e⟩
  · exact op_ok0 H hρ e
  rcases orElseL_some e with e | ⟨_, e⟩
  · exact op_okX H hρ e
  · obtain ⟨v, u, rfl, q2, q3⟩ := lanes_ok H hρ e
    exact ⟨φ, w, u, q2, Step.refl H, q3⟩
theorem laneV_free {ρ : Rho} {o : Oper} (hk : kindA P o = 0) {j : Nat} {v : AV} (e : laneV P ρ h o j = some v) (h' : Heap) : laneV P ρ h' o j = some v := by
  unfold laneV valO at *
  split at e
  case h_2 => cases e
  rename_i v0 h0 hop
  cases e
  obtain ⟨v1, q1, q2⟩ := free_ok0 hk hop
  cases q1
  rw [q2 (projH j h')]
theorem mapO_congrL {α β : Type} {f g : α → Option β} : ∀ {l : List α} {r : List β}, (∀ x y, f x = some y → g x = some y) → mapO f l = some r → mapO g l = some r
  | [], r, _, e => e
  | x :: l, r, k, e => by
    simp only [mapO, Option.bind_eq_some_iff, Option.some.injEq] at e ⊢
    obtain ⟨y, hy, r', hr, rfl⟩ := e
    exact ⟨y, k _ _ hy, r', mapO_congrL k hr, rfl⟩
theorem free_ok {ρ : Rho} {o : Oper} {r : ANext} (hk : kindA P o = 0) (e : aop P ρ h o = some r) : ∃ v, r = .val v h ∧ ∀ h', aop P ρ h' o = some (.val v h') := by
  rcases orElseL_some e with e | ⟨e0, e⟩
  · obtain ⟨v, q1, q2⟩ := free_ok0 hk e
    exact ⟨v, q1, fun h' => by unfold aop; rw [q2 h']; rfl⟩
  have hn : ∀ h', aop0 P ρ h' o = none := by
    intro h'
    cases q : aop0 P ρ h' o with
    | none => rfl
    | some r' =>
      obtain ⟨_, _, q2⟩ := free_ok0 hk q
      rw [q2 h] at e0; cases e0
  rcases orElseL_some e with e | ⟨e0X, e⟩
  · obtain ⟨v, q1, q2⟩ := free_okX hk e
    exact ⟨v, q1, fun h' => by unfold aop aopY; rw [hn h', q2 h']; rfl⟩
  · unfold lanesA at e
    cases hp : pureL P o with
    | false => rw [hp] at e; cases e
    | true =>
    rw [hp, cond_true] at e
    simp only [Option.map_eq_some_iff, Option.bind_eq_some_iff] at e
    obtain ⟨v, ⟨rs, hrs, hv⟩, rfl⟩ := e
    refine ⟨v, rfl, fun h' => ?_⟩
    have hnX : aopX P ρ h' o = none := by
      cases q : aopX P ρ h' o with
      | none => rfl
      | some r' =>
        obtain ⟨_, _, q2⟩ := free_okX hk q
        rw [q2 h] at e0X; cases e0X
    unfold aop aopY lanesA
    rw [hn h', hnX, hp, cond_true, mapO_congrL (fun x y hxy => laneV_free hk hxy h') hrs]
    simp only [Option.bind_some, hv, Option.map_some, orElseL]
theorem read_ok {ρ : Rho} {o : Oper} {r : ANext} (hk : kindA P o = 1) (e : aop P ρ h o = some r) : ∃ v, r = .val v h := by
  rcases orElseL_some e with e | ⟨e0, e⟩
  · exact read_ok0 hk e
  rcases orElseL_some e with e | ⟨_, e⟩
  · exact read_okX hk e
  · unfold lanesA at e
    cases hp : pureL P o with
    | false => rw [hp] at e; cases e
    | true =>
    rw [hp, cond_true] at e
    simp only [Option.map_eq_some_iff] at e
    obtain ⟨v, _, rfl⟩ := e
    exact ⟨v, rfl⟩
end Go.Vai
