/- The abstract machine: what each operation does there, it does in the model (all but calls, appends, copies, conversions). -/
import Derived.Test.YtbndnhkhphkjgaaGreatDoorVai4
import Derived.Laws.Entries
namespace Go.Vai
set_option linter.unusedVariables false
set_option linter.unusedSimpArgs false
set_option linter.unusedSectionVars false
variable [Lane]
variable {P : Program} {base : Nat} {φ φ' φ'' : Emb} {h h' h'' : Heap} {w w' w'' : World}

theorem run_sizeT {t : TypeId} {n : Nat} (e : sizeT P t = some n) (w : World) : (sizeOf t).run P w = .ok n w := by
  unfold sizeT at e
  simp only [Option.map_eq_some_iff] at e
  obtain ⟨i, h1, rfl⟩ := e
  simp [sizeOf, typeInfo, h1]
theorem run_isAggT {t : TypeId} {g : Bool} (e : isAggT P t = some g) (w : World) : (isAgg t).run P w = .ok g w := by
  unfold isAggT at e
  unfold isAgg
  split at e
  · rename_i h1; cases e; simp [run_underlying h1]
  · rename_i h1; cases e; simp [run_underlying h1]
  · rename_i d h1 h2 h3
    cases e
    simp only [Sem.run_bind, run_underlying h3, Result.andThen_ok]
    rfl
  · cases e
theorem ofV1_VR {v : Value} {x : AV} (e : ofV1 v = some x) : VR φ w x v ∧ oneCell x = true := by
  unfold ofV1 at e
  split at e
  case h_9 => cases e
  all_goals cases e
  · exact ⟨.bool _, rfl⟩
  · exact ⟨.int _ _, rfl⟩
  · exact ⟨.str _, rfl⟩
  · exact ⟨.nilPtr, rfl⟩
  · exact ⟨.nilSlice, rfl⟩
  · exact ⟨.nilMap, rfl⟩
  · exact ⟨.nilf, rfl⟩
  · exact ⟨.nilI, rfl⟩
theorem mapO_all2 {α β γ : Type} {f : α → Option β} {R : β → γ → Prop} {g : α → γ} : ∀ (l : List α) (r : List β) (hf : ∀ a ∈ l, ∀ b, f a = some b → R b (g a)), mapO f l = some r → All2 R r (l.map g)
  | [], r, hf, e => by simp only [mapO, Option.some.injEq] at e; subst e; exact .nil
  | a :: l, r, hf, e => by
    simp only [mapO, Option.bind_eq_some_iff, Option.some.injEq] at e
    obtain ⟨b, h1, r', h2, rfl⟩ := e
    exact .cons (hf a (by simp) b h1) (mapO_all2 l r' (fun a ha => hf a (by simp [ha])) h2)
theorem ofV_VR {v : Value} {x : AV} (e : ofV v = some x) : VR φ w x v := by
  unfold ofV at e
  split at e
  · rename_i cs
    simp only [Option.map_eq_some_iff] at e
    obtain ⟨r, h1, rfl⟩ := e
    have := mapO_all2 (R := VR φ w) (g := id) cs.toList r (fun a _ b hb => (ofV1_VR hb).1) h1
    rw [List.map_id] at this
    exact .agg r cs.toList this
  · exact (ofV1_VR e).1
theorem run_zeroT {t : TypeId} {x : AV} (e : zeroT P t = some x) (w : World) : ∃ z, (zeroValue t).run P w = .ok z w ∧ ∀ φ w, VR φ w x z := by
  unfold zeroT at e
  simp only [Option.bind_eq_some_iff] at e
  obtain ⟨i, h1, z, h2, h3⟩ := e
  refine ⟨z, by simp [zeroValue, typeInfo, h1, h2], fun φ w => ofV_VR h3⟩
theorem cells_VR {x : AV} {v : Value} (k : VR φ w x v) : All2 (VR φ w) (cellsA x) v.cells.toList := by
  have k0 := k
  cases k
  case agg => assumption
  case vec l x hl hs k =>
    have hv : v.cells.toList = [v] := by cases k <;> first | (simp [lane1] at hs; done) | rfl
    rw [hv]; exact .cons k0 .nil
  all_goals exact .cons k0 .nil

/-! loads, stores -/
theorem loadAt_ok (H : HR base φ h w) {t : TypeId} {x v : AV} {p : Value} (hp : VR φ w x p) (hl : loadV P h t x = some v) :
    ∃ u, (Instr.loadAt t p).run P w = .ok u w ∧ VR φ w v u := by
  unfold loadV at hl
  split at hl
  case h_2 => cases hl
  rename_i a
  cases hp with
  | ptr _ ad hL =>
  simp only [Option.bind_eq_some_iff] at hl
  obtain ⟨g, hg, hl⟩ := hl
  have r0 : (Instr.sureAddr (.pointer (some ad))).run P w = .ok ad w := rfl
  unfold Instr.loadAt loadVar
  simp only [Sem.run_bind, r0, Result.andThen_ok, run_isAggT hg]
  cases g with
  | true =>
    simp only [if_true, Option.bind_eq_some_iff, Option.map_eq_some_iff] at hl
    obtain ⟨n, hn, vs, hvs, rfl⟩ := hl
    obtain ⟨us, h1, h2, _⟩ := loadN_cells (P := P) H hL n 0 vs #[] hvs
    refine ⟨.agg ⟨us⟩, ?_, .agg vs us h2⟩
    simp only [if_true, Sem.run_bind, run_sizeT hn, Result.andThen_ok, loadCells, h1]
    simp
  | false =>
    simp only [Bool.false_eq_true, if_false] at hl
    obtain ⟨u, h1, h2, _⟩ := loadC_cell H hL hl
    refine ⟨u, ?_, h2⟩
    rw [add_zero] at h1
    simp [load, Sem.run, h1]

theorem storeAt_ok (H : HR base φ h w) {t : TypeId} {x v : AV} {p u : Value} (hp : VR φ w x p) (hv : VR φ w v u) (hs : storeV P h t x v = some h') :
    ∃ w', (Instr.storeAt t p u).run P w = .ok () w' ∧ Step base φ h w φ h' w' ∧ h'.next = h.next := by
  unfold storeV at hs
  split at hs
  case h_2 => cases hs
  rename_i a
  cases hp with
  | ptr _ ad hL =>
  simp only [Option.bind_eq_some_iff] at hs
  obtain ⟨n, hn, hs⟩ := hs
  split at hs
  case isFalse => cases hs
  rename_i hlen
  have hc := cells_VR hv
  obtain ⟨w', h1, h2, h3⟩ := storeN_cells (P := P) H hL hc 0 hs
  refine ⟨w', ?_, h2, h3⟩
  have r0 : (Instr.sureAddr (.pointer (some ad))).run P w = .ok ad w := rfl
  have e : u.cells.size = n := by rw [← hlen, hc.length, Array.length_toList]
  unfold Instr.storeAt storeVar
  simp only [Sem.run_bind, r0, Result.andThen_ok, run_sizeT hn, e, ne_eq, not_true_eq_false, if_false]
  exact h1
theorem fz00 (n : Nat) : FzOk (0, 0) n := ⟨Nat.le_refl _, by intro o _ ⟨_, q⟩; exact Nat.not_lt_zero _ q⟩
theorem nofrozen (l : List Value) : FzOk (0, 0) l.length := ⟨Nat.le_refl _, by intro o _ ⟨_, q⟩; exact Nat.not_lt_zero _ q⟩
/-- a new variable -/
theorem newVar_ok (H : HR base φ h w) {t : TypeId} {x : AV} {u : Value} (hx : VR φ w x u) {r : Nat × Heap} (hr : newRow h (cellsA x) = some r) :
    ∃ φ' w' ad, (newVar t u).run P w = .ok ad w' ∧ Step base φ h w φ' r.2 w' ∧ LR φ' ⟨r.1, 0, 0, (cellsA x).length⟩ ad := by
  have hc := cells_VR hx
  obtain ⟨h1, h2, h3⟩ := newRow_step H (us' := []) t hc hr (nofrozen _)
  rw [List.append_nil, Array.toArray_toList] at h2
  refine ⟨_, _, ⟨w.heap.size, 0, none⟩, ?_, h2, ?_⟩
  · rfl
  · rw [h1]; exact ⟨_, addE_same _ _ _ _, rfl, Nat.le_refl _, by simp⟩

theorem newVal_ok (H : HR base φ h w) {t : TypeId} {x : AV} {u : Value} (hx : VR φ w x u) {r : ANext} (hr : newVal h x = some r) :
    ∃ v h', r = .val v h' ∧ ∃ φ' w' ad, (newVar t u).run P w = .ok ad w' ∧ Step base φ h w φ' h' w' ∧ VR φ' w' v (.pointer (some ad)) := by
  unfold newVal at hr
  simp only [Option.map_eq_some_iff] at hr
  obtain ⟨q, h1, rfl⟩ := hr
  obtain ⟨φ', w', ad, e1, e2, e3⟩ := newVar_ok (P := P) H (t := t) hx h1
  exact ⟨_, _, rfl, φ', w', ad, e1, e2, .ptr _ _ e3⟩

/-! parts put together -/
theorem spread_foldl (off : Nat) : ∀ (us cs : Array Value), off + us.size ≤ cs.size →
    (us.zipIdx.foldl (fun cs (cj : Value × Nat) => cs.setIfInBounds (off + cj.2) cj.1) cs).toList = cs.toList.take off ++ us.toList ++ cs.toList.drop (off + us.size) := by
  have key : ∀ (us : List Value) (k : Nat) (cs : List Value), off + k + us.length ≤ cs.length →
      ((us.zipIdx k).foldl (fun (cs : Array Value) (cj : Value × Nat) => cs.setIfInBounds (off + cj.2) cj.1) cs.toArray).toList = cs.take (off + k) ++ us ++ cs.drop (off + k + us.length) := by
    intro us
    induction us with
    | nil => intro k cs hk; simp
    | cons u us ih =>
      intro k cs hk
      simp only [List.length_cons] at hk
      simp only [List.zipIdx_cons, List.foldl_cons, List.setIfInBounds_toArray]
      rw [ih (k + 1) _ (by simp; omega)]
      have hlt : off + k < cs.length := by omega
      rw [List.take_set, List.drop_set_of_lt (by omega)]
      rw [show off + (k + 1) = (off + k) + 1 from by omega, List.take_succ_eq_append_getElem hlt, List.set_append_right _ _ (by simp; omega)]
      simp only [List.length_take, Nat.min_eq_left (Nat.le_of_lt hlt), Nat.sub_self, List.set_cons_zero, List.append_assoc, List.singleton_append, List.length_cons, List.cons_append, List.nil_append]
      rw [show off + k + 1 + us.length = off + k + (us.length + 1) from by omega]
  intro us cs hk
  have := key us.toList 0 cs.toList (by simpa using hk)
  simp only [Nat.add_zero, Array.toArray_toList, Array.length_toList] at this
  rw [← this, ← Array.foldl_toList, Array.toList_zipIdx]
theorem fill_ok {pl : Nat → Option (Nat × Nat)} : ∀ (ps : List (Nat × AV)) (qs : List (Nat × Value)) (cs out : List AV) (us : Array Value),
    All2 (fun (p : Nat × AV) (q : Nat × Value) => p.1 = q.1 ∧ VR φ w p.2 q.2) ps qs → All2 (VR φ w) cs us.toList → fillA pl cs ps = some out →
    ∃ us', Instr.fill pl us qs = some us' ∧ All2 (VR φ w) out us'.toList
  | [], qs, cs, out, us, hp, hc, hf => by
    cases hp
    simp only [fillA, Option.some.injEq] at hf
    subst hf
    exact ⟨us, rfl, hc⟩
  | (i, v) :: ps, qs, cs, out, us, hp, hc, hf => by
    cases hp with
    | @cons _ q _ qs h1 ht =>
      obtain ⟨j, u⟩ := q
      obtain ⟨rfl, hv⟩ := h1
      simp only [fillA, Option.bind_eq_some_iff] at hf
      obtain ⟨⟨off, size⟩, e1, hf⟩ := hf
      simp only at hf
      split at hf
      case isFalse => cases hf
      rename_i hcond
      have hvc := cells_VR hv
      have l1 : (cellsA v).length = u.cells.size := by rw [hvc.length, Array.length_toList]
      have l2 : cs.length = us.size := by rw [hc.length, Array.length_toList]
      have hsz : off + u.cells.size ≤ us.size := by omega
      have hnew : All2 (VR φ w) (spread cs off (cellsA v)) (us.toList.take off ++ u.cells.toList ++ us.toList.drop (off + u.cells.size)) := by
        unfold spread
        rw [l1]
        exact ((hc.take off).append hvc).append (hc.drop _)
      rw [← spread_foldl off u.cells us hsz] at hnew
      obtain ⟨us', r1, r2⟩ := fill_ok ps qs _ out _ ht hnew hf
      refine ⟨us', ?_, r2⟩
      simp only [Instr.fill, e1]
      rw [if_neg]
      · exact r1
      · simp only [Bool.or_eq_true, decide_eq_true_eq, ne_eq, not_or]
        omega

theorem run_placesO (w : World) : ∀ (fs : List Field) (l : List (Nat × Nat)), mapO (fun (f : Field) => (sizeT P f.type).map fun n => (f.offset, n)) fs = some l →
    (fs.mapM fun f => (do pure (f.offset, ← sizeOf f.type) : Sem (Nat × Nat))).run P w = .ok l w
  | [], l, e => by simp only [mapO, Option.some.injEq] at e; subst e; simp
  | f :: fs, l, e => by
    simp only [mapO, Option.bind_eq_some_iff, Option.some.injEq, Option.map_eq_some_iff] at e
    obtain ⟨p, ⟨n, h1, rfl⟩, r, h2, rfl⟩ := e
    simp only [List.mapM_cons, Sem.run_bind, run_sizeT h1, Result.andThen_ok, Sem.run_pure, run_placesO w fs r h2]
theorem parts_all2 {a : Act} {ρ : Rho} (hρ : ∀ x v, ρ x = some v → VR φ w v (a.eval x)) (parts : Array (Nat × Operand)) {ps : List (Nat × AV)} (e : partsA ρ parts = some ps) :
    All2 (fun (p : Nat × AV) (q : Nat × Value) => p.1 = q.1 ∧ VR φ w p.2 q.2) ps (parts.map fun (i, x) => (i, a.eval x)).toList := by
  unfold partsA at e
  rw [Array.toList_map]
  refine mapO_all2 parts.toList ps (fun p _ b hb => ?_) e
  simp only [Option.map_eq_some_iff] at hb
  obtain ⟨v, h1, rfl⟩ := hb
  exact ⟨rfl, hρ _ _ h1⟩
theorem build_ok {a : Act} {ρ : Rho} (hρ : ∀ x v, ρ x = some v → VR φ w v (a.eval x)) {t : TypeId} {parts : Array (Nat × Operand)} {r : ANext} (e : oBuild P t parts ρ h = some r) :
    ∃ v u, r = .val v h ∧ (Instr.build t (parts.map fun (i, x) => (i, a.eval x))).run P w = .ok u w ∧ VR φ w v u := by
  unfold oBuild at e
  simp only [Option.bind_eq_some_iff, pureO, Option.map_eq_some_iff] at e
  obtain ⟨z, hz, pl, hpl, ps, hps, v, ⟨cs, hcs, rfl⟩, rfl⟩ := e
  obtain ⟨zv, z1, z2⟩ := run_zeroT hz w
  have hp2 := parts_all2 (w := w) hρ parts hps
  have hzc := cells_VR (z2 φ w)
  unfold placesT at hpl
  split at hpl
  · rename_i fs hu
    simp only [Option.map_eq_some_iff] at hpl
    obtain ⟨l, hl, rfl⟩ := hpl
    obtain ⟨us, f1, f2⟩ := fill_ok ps _ _ _ zv.cells hp2 hzc hcs
    have hm : (fs.mapM fun f => (do pure (f.offset, ← sizeOf f.type) : Sem (Nat × Nat))).run P w = .ok l.toArray w := by
      rw [Array.mapM_eq_mapM_toList]
      simp only [Sem.run_map, run_placesO w _ _ hl, Result.andThen_ok]
    have f1' : Instr.fill (fun i => l.toArray[i]?) zv.cells (parts.map fun (i, x) => (i, a.eval x)).toList = some us := by
      rw [← f1]; congr 1; funext i; simp
    refine ⟨_, .agg us, rfl, ?_, .agg cs us.toList f2⟩
    unfold Instr.build
    simp only [Sem.run_bind, z1, Result.andThen_ok, run_underlying hu, hm]
    rw [f1']; rfl
  · rename_i len el hu
    simp only [Option.map_eq_some_iff] at hpl
    obtain ⟨n, hn, rfl⟩ := hpl
    obtain ⟨us, f1, f2⟩ := fill_ok ps _ _ _ zv.cells hp2 hzc hcs
    refine ⟨_, .agg us, rfl, ?_, .agg cs us.toList f2⟩
    unfold Instr.build
    simp only [Sem.run_bind, z1, Result.andThen_ok, run_underlying hu, run_sizeT hn]
    rw [f1]; rfl
  · cases hpl
theorem reps_ok {zs : List AV} {us : List Value} (hz : All2 (VR φ w) zs us) : ∀ n, All2 (VR φ w) (reps zs n) (List.replicate n us).flatten
  | 0 => .nil
  | n + 1 => by rw [List.replicate_succ, List.flatten_cons]; exact hz.append (reps_ok hz n)
theorem reps_length (zs : List AV) : ∀ n, (reps zs n).length = n * zs.length
  | 0 => by simp [reps]
  | n + 1 => by rw [reps, List.length_append, reps_length zs n, Nat.add_mul]; omega
theorem range_flatten (us : Array Value) (n : Nat) : (Array.range (n * us.size)).map (us[· % us.size]!) = (List.replicate n us.toList).flatten.toArray := by
  apply Array.ext'
  simp only [Array.toList_map, Array.toList_range]
  induction n with
  | zero => simp
  | succ n ih =>
    rw [Nat.add_mul, Nat.one_mul, List.range_add, List.map_append, ih, List.replicate_succ', List.flatten_append]
    congr 1
    simp only [List.flatten_cons, List.flatten_nil, List.append_nil, List.map_map]
    apply List.ext_getElem
    · simp
    · intro i h1 h2
      simp only [List.length_map, List.length_range] at h1
      simp only [List.getElem_map, List.getElem_range, Function.comp_apply, Array.getElem_toList]
      have e : (n * us.size + i) % us.size = i := by rw [Nat.mul_comm, Nat.mul_add_mod, Nat.mod_eq_of_lt h1]
      rw [e]
      simp [getElem!_pos, h1]

theorem fillA_length {pl : Nat → Option (Nat × Nat)} : ∀ (ps : List (Nat × AV)) (cs out : List AV), fillA pl cs ps = some out → out.length = cs.length
  | [], cs, out, e => by simp only [fillA, Option.some.injEq] at e; rw [e]
  | (i, v) :: ps, cs, out, e => by
    simp only [fillA, Option.bind_eq_some_iff] at e
    obtain ⟨⟨off, size⟩, e1, e2⟩ := e
    simp only at e2
    split at e2
    case isFalse => cases e2
    rename_i hc
    rw [fillA_length ps _ _ e2]
    unfold spread
    simp only [List.length_append, List.length_take, List.length_drop]
    omega
/-- a row with elements, as a slice -/
theorem rowSlice_ok (H : HR base φ h w) {t : TypeId} {vs : List AV} {us : List Value} (hv : All2 (VR φ w) vs us) {r : Nat × Heap} (hr : newRow h vs = some r) {len room sz : Nat} (hl : len ≤ room) (hz : 0 < sz) (hn : vs.length = room * sz) :
    ∃ φ' w' ad, (Go.newRow t us.toArray).run P w = .ok ad w' ∧ Step base φ h w φ' r.2 w' ∧ VR φ' w' (.slice (some ⟨r.1, 0, 0, room * sz⟩) len room sz) (.slice (some ad) len room) := by
  obtain ⟨h1, h2, h3⟩ := newRow_step H (us' := []) t hv hr (nofrozen _)
  rw [List.append_nil] at h2
  refine ⟨_, _, ⟨w.heap.size, 0, none⟩, rfl, h2, ?_⟩
  have lu := hv.length
  refine .slice _ _ _ _ _ _ hl (Nat.le_refl _) hz ?_ (.inr ⟨?_, ?_⟩)
  · simp
  · rw [h1]; exact ⟨_, addE_same _ _ _ _, by simp only; omega, Nat.le_refl _, by simp⟩
  · refine ⟨us.toArray, t, (0, 0), alloc_new w _, ?_, by simpa using nofrozen us⟩
    simp only [Nat.zero_add, List.size_toArray]; omega
theorem rep_zero {zv : Value} {z : AV} (hz : VR φ w z zv) (n : Nat) : All2 (VR φ w) (reps (cellsA z) n) ((Array.range (n * zv.cells.size)).map (zv.cells[· % zv.cells.size]!)).toList := by
  rw [range_flatten]; exact reps_ok (cells_VR hz) n
theorem buildSlice_ok (H : HR base φ h w) {a : Act} {ρ : Rho} (hρ : ∀ x v, ρ x = some v → VR φ w v (a.eval x)) {t : TypeId} {len : Nat} {parts : Array (Nat × Operand)} {r : ANext} (e : oBuildSlice P t len parts ρ h = some r) :
    ∃ v h' φ' w' u, r = .val v h' ∧ (Instr.buildSlice t len (parts.map fun (i, x) => (i, a.eval x))).run P w = .ok u w' ∧ Step base φ h w φ' h' w' ∧ VR φ' w' v u := by
  unfold oBuildSlice at e
  split at e
  case h_2 => cases e
  rename_i el hu
  simp only [Option.bind_eq_some_iff] at e
  obtain ⟨n, hn, z, hz, ps, hps, e⟩ := e
  split at e
  case isFalse => cases e
  rename_i hlen
  simp only [Option.bind_eq_some_iff, Option.map_eq_some_iff] at e
  obtain ⟨cs, hcs, q, hq, rfl⟩ := e
  obtain ⟨hlen, hn0, hn1, hzl⟩ := hlen
  obtain ⟨zv, z1, z2⟩ := run_zeroT hz w
  have hzc := cells_VR (z2 φ w)
  have hzs : zv.cells.size = n := by rw [← hzl, hzc.length, Array.length_toList]
  obtain ⟨us, f1, f2⟩ := fill_ok ps _ _ _ ((Array.range (len * zv.cells.size)).map (zv.cells[· % zv.cells.size]!)) (parts_all2 (w := w) hρ parts hps) (rep_zero (z2 φ w) len) hcs
  have hl : cs.length = len * n := by rw [fillA_length _ _ _ hcs, reps_length, hzl]
  obtain ⟨φ', w', ad, g1, g2, g3⟩ := rowSlice_ok (P := P) H (t := el) f2 hq (Nat.le_refl len) hn0 hl
  refine ⟨_, _, φ', w', _, rfl, ?_, g2, g3⟩
  have hbig : ¬ (len * n > 2 ^ 24) := by
    have : len * n ≤ 65536 * 256 := Nat.mul_le_mul hlen hn1
    omega
  unfold Instr.buildSlice
  simp only [Sem.run_bind, run_underlying hu, Result.andThen_ok, run_sizeT hn, hbig, if_false, Sem.run_pure]
  by_cases h0 : len * n = 0
  · have hl0 : len = 0 := by
      rcases Nat.mul_eq_zero.mp h0 with q | q
      · exact q
      · omega
    subst hl0
    have e0 : ∀ f : Nat → Value, (Array.range 0).map f = #[] := fun f => by simp
    simp only [Nat.zero_mul, e0] at f1 ⊢
    simp only [if_true, Sem.run_bind, Sem.run_pure, Result.andThen_ok]
    have f1' : Instr.fill (fun i => some (i * n, n)) #[] (parts.map fun x => (x.1, a.eval x.2)).toList = some us := f1
    rw [f1']
    simp only [Sem.run_bind]
    rw [show us = us.toList.toArray from by simp, g1]
    rfl
  · simp only [h0, if_false, Sem.run_bind, z1, Sem.run_pure, Result.andThen_ok]
    have f1' : Instr.fill (fun i => some (i * n, n)) ((Array.range (len * zv.cells.size)).map (zv.cells[· % zv.cells.size]!)) (parts.map fun x => (x.1, a.eval x.2)).toList = some us := f1
    rw [show len * n = len * zv.cells.size from by rw [hzs], f1']
    simp only [Sem.run_bind]
    rw [show us = us.toList.toArray from by simp, g1]
    rfl

theorem wrap_small (n : Int) (h0 : 0 ≤ n) (h1 : n ≤ 1099511627776) : IntKind.i64.wrap n = n := by
  have e : IntKind.i64.wrap n = if (n % (2 ^ 64 : Int)) ≥ (2 ^ 63 : Int) then n % (2 ^ 64 : Int) - (2 ^ 64 : Int) else n % (2 ^ 64 : Int) := by
    simp [IntKind.wrap, IntKind.bits, IntKind.signed]
  rw [e]
  have e2 : n % (2 ^ 64 : Int) = n := Int.emod_eq_of_lt h0 (by omega)
  rw [e2, if_neg (by omega)]
theorem makeSlice_ok (H : HR base φ h w) {t el : TypeId} {l c : AV} {lv cv : Value} (hu : P.underlying t = some (.slice el)) (hl : VR φ w l lv) (hc : VR φ w c cv) {r : ANext} (e : mkV P h el l c = some r) :
    ∃ v h' φ' w' u, r = .val v h' ∧ (Instr.makeSlice t lv cv).run P w = .ok u w' ∧ Step base φ h w φ' h' w' ∧ VR φ' w' v u := by
  unfold mkV at e
  split at e
  case h_2 => cases e
  rename_i k1 l0
  split at e
  case h_2 => cases e
  rename_i k2 c0
  cases hl
  cases hc
  simp only [Option.bind_eq_some_iff] at e
  obtain ⟨n, hn, z, hz, e⟩ := e
  split at e
  case isFalse => cases e
  rename_i hcond
  obtain ⟨q1, q2, q3, q4, q5, q6, q7⟩ := hcond
  simp only [Option.map_eq_some_iff] at e
  obtain ⟨r', hr, rfl⟩ := e
  obtain ⟨zv, z1, z2⟩ := run_zeroT hz w
  have hzc := cells_VR (z2 φ w)
  have hzs : zv.cells.size = n := by rw [← q6, hzc.length, Array.length_toList]
  have hl : (reps (cellsA z) c0.toNat).length = c0.toNat * n := by rw [reps_length, q6]
  obtain ⟨φ', w', ad, g1, g2, g3⟩ := rowSlice_ok (P := P) H (t := el) (rep_zero (z2 φ w) c0.toNat) hr (show l0.toNat ≤ c0.toNat by omega) q4 hl
  refine ⟨_, _, φ', w', _, rfl, ?_, g2, g3⟩
  have hn' := hn
  unfold sizeT at hn'
  simp only [Option.map_eq_some_iff] at hn'
  obtain ⟨info, hi, hsz⟩ := hn'
  rw [hi] at q7
  simp only [Option.all_some, decide_eq_true_eq] at q7
  have ti : (typeInfo el).run P w = .ok info w := by simp [typeInfo, hi]
  have hb : ¬ ((info.bytes : Int) * c0 > 2 ^ 48) := by
    have : (info.bytes : Int) * c0 ≤ 65536 * 65536 := Int.mul_le_mul (by omega) q3 (by omega) (by omega)
    omega
  have r1 : ∀ k n, (asInt (.int k n)).run P w = .ok n w := fun k n => rfl
  have w1 := wrap_small l0 q1 (by omega)
  have w2 := wrap_small c0 (by omega) (by omega)
  have ng1 : ¬ c0 < 0 := by omega
  have ng2 : ¬ l0 < 0 := by omega
  have ng3 : ¬ l0 > c0 := by omega
  unfold Instr.makeSlice
  simp only [Sem.run_bind, run_underlying hu, Result.andThen_ok, r1, ti, w1, w2, hb, ng1, ng2, ng3, decide_false, Bool.or_false, Bool.false_eq_true, if_false, run_askRoom, run_sizeT hn, Sem.run_pure]
  by_cases h0 : c0.toNat * n = 0
  · have hl0 : c0.toNat = 0 := by
      rcases Nat.mul_eq_zero.mp h0 with q | q
      · exact q
      · omega
    have e0 : ∀ f : Nat → Value, (Array.range 0).map f = #[] := fun f => by simp
    rw [hl0] at g1 g3 ⊢
    simp only [Nat.zero_mul, e0] at g1 g3 ⊢
    simp only [if_true, Sem.run_bind, Sem.run_pure, Result.andThen_ok]
    have g1' : (Go.newRow el #[]).run P w = .ok ad w' := g1
    rw [g1']; rfl
  · simp only [h0, if_false, Sem.run_bind, z1, Sem.run_pure, Result.andThen_ok]
    rw [show c0.toNat * n = c0.toNat * zv.cells.size from by rw [hzs]]
    rw [Array.toArray_toList] at g1
    rw [g1]; rfl
end Go.Vai
