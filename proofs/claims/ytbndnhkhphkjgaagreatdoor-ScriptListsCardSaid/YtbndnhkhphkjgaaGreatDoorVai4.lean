/- The abstract machine: steps of memory put together; new rows; rows that grow. -/
import Derived.Test.YtbndnhkhphkjgaaGreatDoorVai3
namespace Go.Vai
set_option linter.unusedVariables false
set_option linter.unusedSimpArgs false
set_option linter.unusedSectionVars false
variable [Lane]
variable {P : Program} {base : Nat} {φ φ' φ'' : Emb} {h h' h'' : Heap} {w w' w'' : World}

/-- one step of the machine's memory, and of the world -/
structure WStep (base : Nat) (φ : Emb) (h : Heap) (w : World) (φ' : Emb) (h' : Heap) (w' : World) : Prop where
  hr : HR base φ' h' w'
  ext : Ext φ φ'
  rows : Rows w w'
  kept : Kept φ h w w'
  newer : ∀ b g c, φ' b g = some c → c.cb < w.heap.size → ∃ g0 c0, φ b g0 = some c0 ∧ c0.cb = c.cb
  next : h.next ≤ h'.next
  known : ∀ b, b < h.next → wr (h'.objs.get b) = true → wr (h.objs.get b) = true
/-- a step that leaves iterators over maps as they are -/
structure Step (base : Nat) (φ : Emb) (h : Heap) (w : World) (φ' : Emb) (h' : Heap) (w' : World) : Prop extends WStep base φ h w φ' h' w' where
  its : ∀ b m n cur g c, h.objs.get b = some (.mapit m n cur) → φ b g = some c → w'.heap[c.cb]? = w.heap[c.cb]? ∧ h'.objs.get b = h.objs.get b
theorem HR.below (H : HR base φ h w) {b g : Nat} {c : CL} (e : φ b g = some c) : b < h.next := by
  rcases Nat.lt_or_ge b h.next with q | q
  · exact q
  · have := (H.fresh b q).2 g; rw [e] at this; cases this
theorem Kept.refl (φ : Emb) (h : Heap) (w : World) : Kept φ h w w := ⟨rfl, rfl, rfl, Nat.le_refl _, fun _ _ _ => rfl⟩
theorem Step.refl (H : HR base φ h w) : Step base φ h w φ h w :=
  ⟨⟨H, Ext.refl _, Rows.refl _, Kept.refl _ _ _, fun b g c e _ => ⟨g, c, e, rfl⟩, Nat.le_refl _, fun _ _ q => q⟩, fun _ _ _ _ _ _ _ _ => ⟨rfl, rfl⟩⟩
theorem WStep.trans (H : HR base φ h w) (s : WStep base φ h w φ' h' w') (t : WStep base φ' h' w' φ'' h'' w'') : WStep base φ h w φ'' h'' w'' := by
  refine ⟨t.hr, s.ext.trans t.ext, s.rows.trans t.rows, ⟨t.kept.os.trans s.kept.os, t.kept.tape.trans s.kept.tape, t.kept.output.trans s.kept.output, Nat.le_trans s.kept.size t.kept.size, ?_⟩, ?_, Nat.le_trans s.next t.next, ?_⟩
  · intro cb hcb hk
    rw [t.kept.block cb (Nat.lt_of_lt_of_le hcb s.kept.size) ?_, s.kept.block cb hcb hk]
    rintro b g c e1 e2 rfl
    obtain ⟨g0, c0, q1, q2⟩ := s.newer b g c e1 hcb
    exact hk b g0 c0 q1 (s.known b (H.below q1) e2) q2
  · intro b g c e hc
    obtain ⟨g0, c0, q1, q2⟩ := t.newer b g c e (Nat.lt_of_lt_of_le hc s.kept.size)
    obtain ⟨g1, c1, r1, r2⟩ := s.newer b g0 c0 q1 (by rw [q2]; exact hc)
    exact ⟨g1, c1, r1, r2.trans q2⟩
  · intro b hb q
    exact s.known b hb (t.known b (Nat.lt_of_lt_of_le hb s.next) q)
theorem Step.trans (H : HR base φ h w) (s : Step base φ h w φ' h' w') (t : Step base φ' h' w' φ'' h'' w'') : Step base φ h w φ'' h'' w'' :=
  ⟨s.toWStep.trans H t.toWStep, fun b m n cur g c e1 e2 => by
    obtain ⟨p1, p2⟩ := s.its b m n cur g c e1 e2
    obtain ⟨r1, r2⟩ := t.its b m n cur g c (by rw [p2]; exact e1) (s.ext _ _ _ e2)
    exact ⟨r1.trans p1, r2.trans p2⟩⟩
theorem VR.step (s : Step base φ h w φ' h' w') {x : AV} {v : Value} (k : VR φ w x v) : VR φ' w' x v := k.mono s.ext s.rows
theorem All2.step (s : Step base φ h w φ' h' w') {x : List AV} {v : List Value} (k : All2 (VR φ w) x v) : All2 (VR φ' w') x v := k.mono s.ext s.rows

theorem oneCell_value {x : AV} {v : Value} (k : VR φ w x v) (ho : oneCell x = true) : (∀ cs, v ≠ .agg cs) ∧ (∀ cs, v ≠ .tuple cs) := by
  cases k <;> first | (simp [oneCell] at ho; done) | (constructor <;> intro cs e <;> cases e; done) | skip
  rename_i l x hl hs k
  cases k <;> first | (simp [lane1] at hs; done) | (constructor <;> intro cs e <;> cases e; done)

theorem storeN_cells (H : HR base φ h w) {a : Loc} {ad : Addr} (k : LR φ a ad) : ∀ {vs : List AV} {us : List Value} (hv : All2 (VR φ w) vs us) (j : Nat) {h' : Heap}, storeN h a j vs = some h' →
    ∃ w', (storeCells ad us j).run P w = .ok () w' ∧ Step base φ h w φ h' w' ∧ h'.next = h.next := by
  intro vs
  induction vs generalizing h w with
  | nil =>
    intro us hv j h' hs
    cases hv
    simp only [storeN, Option.some.injEq] at hs
    subst hs
    exact ⟨w, by simp [storeCells], Step.refl H, rfl⟩
  | cons v r ih =>
    intro us hv j h' hs
    cases hv with
    | @cons _ u _ us hvu ht =>
      simp only [storeN, Option.bind_eq_some_iff] at hs
      obtain ⟨h1, hs1, hs2⟩ := hs
      obtain ⟨q1, q2, q3, q4, q5, q6, q7, q8, q9⟩ := storeC_cell H k hvu hs1
      obtain ⟨p1, p2⟩ := oneCell_value hvu q3
      have st1 : Step base φ h w φ h1 (w.setCell (ad.add j) u) :=
        ⟨⟨q4, Ext.refl _, q6, q5, fun b g c e _ => ⟨g, c, e, rfl⟩, by rw [q7]; exact Nat.le_refl _, fun b _ e => by rw [← q8]; exact e⟩, q9⟩
      obtain ⟨w', e1, e2, e3⟩ := ih q4 (ht.mono (Ext.refl _) q6) (j + 1) hs2
      refine ⟨w', ?_, st1.trans H e2, e3.trans q7⟩
      have hrun : (store (ad.add j) u).run P w = .ok () (w.setCell (ad.add j) u) := by
        unfold store
        cases hc : w.cell? (ad.add j) with
        | none => exact absurd hc q1
        | some x => cases u <;> simp_all [Sem.run]
      simp only [storeCells, Sem.run_bind, hrun, Result.andThen]
      exact e1

theorem fillTr_get (lo : Nat) : ∀ (vs : List AV) (cs cs' : Tr (Nat × AV)) (i : Nat), fillTr lo cs i vs = some cs' →
    (∀ k, cs'.get k = if i ≤ k ∧ k < i + vs.length then (vs[k - i]?).map (fun v => (lo, v)) else cs.get k) ∧ ∀ v ∈ vs, oneCell v = true
  | [], cs, cs', i, hf => by
    simp only [fillTr, Option.some.injEq] at hf
    subst hf
    exact ⟨fun k => by rw [if_neg (by simp)], by simp⟩
  | v :: r, cs, cs', i, hf => by
    unfold fillTr at hf
    split at hf
    · rename_i ho
      simp only [Option.bind_eq_some_iff] at hf
      obtain ⟨c1, h1, h2⟩ := hf
      obtain ⟨g1, g2⟩ := fillTr_get lo r c1 cs' (i + 1) h2
      refine ⟨fun k => ?_, by simpa [ho] using g2⟩
      rw [g1]
      by_cases e : k = i
      · subst e
        rw [if_neg (by omega), Tr.get_set_same h1, if_pos (by simp), Nat.sub_self]
        simp
      · by_cases e2 : i + 1 ≤ k ∧ k < i + 1 + r.length
        · rw [if_pos e2, if_pos (by simp; omega)]
          rw [show k - i = (k - (i + 1)) + 1 from by omega, List.getElem?_cons_succ]
        · rw [if_neg e2, if_neg (by simp; omega), Tr.get_set_ne h1 e]
    · cases hf

def addE (φ : Emb) (b g : Nat) (c : CL) : Emb := fun b' g' => if b' = b ∧ g' = g then some c else φ b' g'
theorem addE_ext {b g : Nat} {c : CL} (hn : φ b g = none) : Ext φ (addE φ b g c) := by
  intro b' g' c' e
  unfold addE
  rw [if_neg]
  · exact e
  · rintro ⟨rfl, rfl⟩; rw [hn] at e; cases e
theorem addE_same (φ : Emb) (b g : Nat) (c : CL) : addE φ b g c b g = some c := by unfold addE; rw [if_pos ⟨rfl, rfl⟩]

theorem alloc_get (w : World) (o : Obj) (k : Nat) (hk : k < w.heap.size) : (w.alloc o).heap[k]? = w.heap[k]? := by
  show (w.heap.push o)[k]? = _
  rw [Array.getElem?_push, if_neg (by omega)]
theorem alloc_new (w : World) (o : Obj) : (w.alloc o).heap[w.heap.size]? = some o := by
  show (w.heap.push o)[w.heap.size]? = _
  simp
theorem alloc_size (w : World) (o : Obj) : (w.alloc o).heap.size = w.heap.size + 1 := by
  show (w.heap.push o).size = _
  simp
theorem alloc_rows (w : World) (o : Obj) : Rows w (w.alloc o) := by
  rintro cb n ⟨arr, t, fz, q1, q2, q3⟩
  have : cb < w.heap.size := by
    rcases Nat.lt_or_ge cb w.heap.size with q | q
    · exact q
    · rw [Array.getElem?_eq_none q] at q1; cases q1
  exact ⟨arr, t, fz, (alloc_get w o cb this).trans q1, q2, q3⟩
theorem alloc_kept (φ : Emb) (h : Heap) (w : World) (o : Obj) : Kept φ h w (w.alloc o) :=
  ⟨rfl, rfl, rfl, by rw [alloc_size]; omega, fun cb hcb _ => alloc_get w o cb hcb⟩

/-- a new block of the machine's, a new one of the model's -/
theorem new_step (H : HR base φ h w) (x : AObj) (o : Obj) (os : Tr AObj) (ho : h.objs.set h.next x = some os) (e : Nat)
    (hx : (∃ ro cs arr t fz, x = .cells ro 0 cs ∧ o = .cells arr t fz ∧ FzOk fz arr.size ∧
        (∀ i lo v, cs.get i = some (lo, v) → lo = 0) ∧ ∀ i lo v, cs.get i = some (lo, v) → i < e → ∃ u, arr[i]? = some u ∧ VR φ w v u ∧ oneCell v = true) ∨
      (isCells x = false ∧ ObjR φ w x o)) :
    Step base φ h w (addE φ h.next 0 ⟨w.heap.size, 0, 0, e⟩) ⟨h.next + 1, os⟩ (w.alloc o) := by
  have hn : ∀ g, φ h.next g = none := (H.fresh h.next (Nat.le_refl _)).2
  have hext : Ext φ (addE φ h.next 0 ⟨w.heap.size, 0, 0, e⟩) := addE_ext (hn 0)
  have hrows := alloc_rows w o
  have inv : ∀ b g c, addE φ h.next 0 ⟨w.heap.size, 0, 0, e⟩ b g = some c → (b = h.next ∧ g = 0 ∧ c = ⟨w.heap.size, 0, 0, e⟩) ∨ (b ≠ h.next ∧ φ b g = some c) := by
    intro b g c q
    unfold addE at q
    split at q
    · rename_i p; exact .inl ⟨p.1, p.2, (Option.some.inj q).symm⟩
    · exact .inr ⟨(by rintro rfl; rw [hn] at q; cases q), q⟩
  refine ⟨⟨⟨?_, ?_, ?_, ?_, ?_, ?_, ?_⟩, hext, hrows, alloc_kept φ h w o, ?_, Nat.le_succ _, ?_⟩, fun b m n cur g c e1 e2 => ⟨alloc_get w o _ (H.range _ _ _ e2), by
    have : b < h.next := H.below e2
    show os.get b = _
    rw [Tr.get_set_ne ho (by omega)]⟩⟩
  · intro b hb
    have hb' : h.next + 1 ≤ b := hb
    refine ⟨?_, fun g => ?_⟩
    · show os.get b = none
      rw [Tr.get_set_ne ho (by omega)]; exact (H.fresh b (by omega)).1
    · cases q : addE φ h.next 0 ⟨w.heap.size, 0, 0, e⟩ b g with
      | none => rfl
      | some c =>
        rcases inv b g c q with ⟨rfl, _⟩ | ⟨_, q2⟩
        · omega
        · rw [(H.fresh b (by omega)).2 g] at q2; cases q2
  · rw [alloc_size]; have := H.low; omega
  · intro b g c q
    rw [alloc_size]
    rcases inv b g c q with ⟨_, _, rfl⟩ | ⟨_, q2⟩
    · exact Nat.lt_succ_self _
    · have := H.range _ _ _ q2; omega
  · intro b g c b' g' c' q q' ec
    rcases inv b g c q with ⟨rfl, rfl, rfl⟩ | ⟨_, q2⟩ <;> rcases inv b' g' c' q' with ⟨rfl, rfl, rfl⟩ | ⟨_, q2'⟩
    · exact ⟨rfl, rfl, rfl⟩
    · have := H.range _ _ _ q2'; simp at ec; omega
    · have := H.range _ _ _ q2; simp at ec; omega
    · exact H.inj _ _ _ _ _ _ q2 q2' ec
  · intro b ro gen cs q1 i lo v hi
    have q1' : os.get b = some (.cells ro gen cs) := q1
    by_cases hne : b = h.next
    · subst hne
      rw [Tr.get_set_same ho] at q1'
      rcases hx with ⟨ro', cs', arr, t, fz, rfl, rfl, hf, h0, hc⟩ | ⟨hx1, hx2⟩
      · cases q1'; rw [h0 i lo v hi]; exact Nat.le_refl _
      · cases q1'; cases hx1
    · rw [Tr.get_set_ne ho hne] at q1'; exact H.los _ _ _ _ q1' _ _ _ hi
  · intro b ro gen cs g c q1 q2
    have q1' : os.get b = some (.cells ro gen cs) := q1
    rcases inv b g c q2 with ⟨rfl, rfl, rfl⟩ | ⟨hne, q3⟩
    · rw [Tr.get_set_same ho] at q1'
      rcases hx with ⟨ro', cs', arr, t, fz, rfl, rfl, hf, h0, hc⟩ | ⟨hx1, hx2⟩
      · cases q1'
        refine ⟨Nat.le_refl _, fun _ => H.low, fun i lo v hi => by rw [h0 i lo v hi]; exact Nat.le_refl _, arr, t, fz, alloc_new w _, fun _ => hf, ?_⟩
        intro i lo v hi _ _ hie
        obtain ⟨u, p1, p2, p3⟩ := hc i lo v hi hie
        exact ⟨u, by simpa using p1, p2.mono hext hrows, p3⟩
      · cases q1'; cases hx1
    · rw [Tr.get_set_ne ho hne] at q1'
      obtain ⟨p1, p2, p3, arr, t, fz, pa, pf, pk⟩ := H.cells _ _ _ _ _ _ q1' q3
      refine ⟨p1, p2, p3, arr, t, fz, (alloc_get w o _ (H.range _ _ _ q3)).trans pa, pf, ?_⟩
      intro i lo v hi hle hao hie
      obtain ⟨u, r1, r2, r3⟩ := pk i lo v hi hle hao hie
      exact ⟨u, r1, r2.mono hext hrows, r3⟩
  · intro b y g c q1 hy q2
    have q1' : os.get b = some y := q1
    rcases inv b g c q2 with ⟨rfl, rfl, rfl⟩ | ⟨hne, q3⟩
    · rw [Tr.get_set_same ho] at q1'
      rcases hx with ⟨ro', cs', arr, t, fz, rfl, rfl, hf, h0, hc⟩ | ⟨hx1, hx2⟩
      · cases q1'; cases hy
      · cases q1'; exact ⟨H.low, ⟨rfl, rfl⟩, o, alloc_new w _, hx2.mono hext hrows⟩
    · rw [Tr.get_set_ne ho hne] at q1'
      obtain ⟨p1, p0, ob, p2, p3⟩ := H.other _ _ _ _ q1' hy q3
      exact ⟨p1, p0, ob, (alloc_get w o _ (H.range _ _ _ q3)).trans p2, p3.mono hext hrows⟩
  · intro b g c q hc
    rcases inv b g c q with ⟨rfl, rfl, rfl⟩ | ⟨hne, q3⟩
    · simp at hc
    · exact ⟨g, c, q3, rfl⟩
  · intro b hb q
    have : wr (os.get b) = true := q
    rwa [Tr.get_set_ne ho (by omega)] at this

/-- a new row: what is made of cells that are like the machine's -/
theorem newRow_step (H : HR base φ h w) {vs : List AV} {us us' : List Value} (t : TypeId) {fz : Nat × Nat} (hv : All2 (VR φ w) vs us) {r : Nat × Heap} (hr : newRow h vs = some r)
    (hf : FzOk fz (us ++ us').length) :
    r.1 = h.next ∧ Step base φ h w (addE φ h.next 0 ⟨w.heap.size, 0, 0, vs.length⟩) r.2 (w.alloc (.cells (us ++ us').toArray t fz)) ∧ (∀ v ∈ vs, oneCell v = true) := by
  unfold newRow at hr
  simp only [Option.bind_eq_some_iff, Option.some.injEq] at hr
  obtain ⟨cs, h1, os, h2, rfl⟩ := hr
  obtain ⟨g1, g2⟩ := fillTr_get 0 vs .nil cs 0 h1
  refine ⟨rfl, ?_, g2⟩
  have lens := hv.length
  refine new_step H _ _ os h2 vs.length (.inl ⟨false, cs, _, t, fz, rfl, rfl, by simpa using hf, ?_, ?_⟩)
  · intro i lo v hi
    rw [g1] at hi
    split at hi
    · simp only [Option.map_eq_some_iff] at hi; obtain ⟨v', _, e⟩ := hi; cases e; rfl
    · rw [Tr.get_nil] at hi; cases hi
  · intro i lo v hi hlt
    rw [g1, if_pos (by omega)] at hi
    simp only [Option.map_eq_some_iff, Nat.sub_zero] at hi
    obtain ⟨v', e0, e⟩ := hi
    cases e
    obtain ⟨u, p1, p2⟩ := hv.get i _ e0
    refine ⟨u, ?_, p2, g2 _ (List.mem_of_getElem? e0)⟩
    rw [List.getElem?_toArray, List.getElem?_append_left (by omega)]; exact p1

/-- the world whose block is another row -/
def setBlock (w : World) (cb : Nat) (o : Obj) : World := { w with heap := w.heap.setIfInBounds cb o }
theorem grow_step (H : HR base φ h w) {a : Loc} {len n sz : Nat} {vs : List AV} {v' : AV} {h' : Heap} (hg : growA h a len n sz vs = some (v', h')) (hz : 0 < sz) (hlen : vs.length = n * sz)
    (he : a.i + len * sz ≤ a.e) :
    ∃ gen cs, h.objs.get a.b = some (.cells false gen cs) ∧ a.g = gen ∧ v' = .slice (some ⟨a.b, gen + 1, a.i, a.i + (len + n) * sz⟩) (len + n) (len + n) sz ∧ (∀ v ∈ vs, oneCell v = true) ∧ h'.next = h.next ∧
    -- in place
    (∀ (c : CL) (arr : Array Value) (t : TypeId) (fz : Nat × Nat) (arr' : Array Value) (us : List Value), φ a.b a.g = some c → a.e = c.e → c.ao ≤ a.i → w.heap[c.cb]? = some (.cells arr t fz) → arr'.size = arr.size →
      All2 (VR φ w) vs us →
      (∀ k, (k < c.co + (a.i - c.ao) + len * sz ∨ c.co + (a.i - c.ao) + (len + n) * sz ≤ k) → arr'[k]? = arr[k]?) → (∀ j u, us[j]? = some u → arr'[c.co + (a.i - c.ao) + len * sz + j]? = some u) →
      c.co + (a.i - c.ao) + (len + n) * sz ≤ arr.size →
      Step base φ h w (addE φ a.b (gen + 1) ⟨c.cb, c.co, c.ao, a.i + (len + n) * sz⟩) h' (setBlock w c.cb (.cells arr' t fz))) ∧
    -- in a new row
    (∀ (olds us rest : List Value) (t : TypeId), All2 (VR φ w) vs us → olds.length = len * sz →
      (∀ j lo v, j < len * sz → cs.get (a.i + j) = some (lo, v) → ∃ u, olds[j]? = some u ∧ VR φ w v u ∧ oneCell v = true) →
      Step base φ h w (addE φ a.b (gen + 1) ⟨w.heap.size, 0, a.i, a.i + (len + n) * sz⟩) h' (w.alloc (.cells (olds ++ us ++ rest).toArray t))) := by
  unfold growA at hg
  split at hg
  case h_2 => cases hg
  rename_i gen cs hget
  split at hg
  case isFalse => cases hg
  rename_i hgen
  simp only [Option.bind_eq_some_iff, Option.some.injEq, Prod.mk.injEq] at hg
  obtain ⟨cs', hcs, os, ho, rfl, rfl⟩ := hg
  obtain ⟨f1, f2⟩ := fillTr_get _ _ _ _ _ hcs
  have hnn : a.i + (len + n) * sz = a.i + len * sz + n * sz := by rw [Nat.add_mul]; omega
  have hb : a.b < h.next := by
    rcases Nat.lt_or_ge a.b h.next with q | q
    · exact q
    · rw [(H.fresh _ q).1] at hget; cases hget
  have glo : ∀ g c, φ a.b g = some c → g ≤ gen := fun g c e => (H.cells _ _ _ _ _ _ hget e).1
  have hnew : φ a.b (gen + 1) = none := by
    cases q : φ a.b (gen + 1) with
    | none => rfl
    | some c => have := glo _ _ q; omega
  have inv : ∀ (cN : CL) b g c, addE φ a.b (gen + 1) cN b g = some c → (b = a.b ∧ g = gen + 1 ∧ c = cN) ∨ ((b ≠ a.b ∨ g ≤ gen) ∧ φ b g = some c) := by
    intro cN b g c q
    unfold addE at q
    split at q
    · rename_i p; exact .inl ⟨p.1, p.2, (Option.some.inj q).symm⟩
    · refine .inr ⟨?_, q⟩
      by_cases e : b = a.b
      · subst e; exact .inr (glo _ _ q)
      · exact .inl e
  have hlo' : ∀ i lo v, cs'.get i = some (lo, v) → (a.i + len * sz ≤ i ∧ i < a.i + len * sz + n * sz ∧ lo = gen + 1 ∧ vs[i - (a.i + len * sz)]? = some v) ∨ ((i < a.i + len * sz ∨ a.i + len * sz + n * sz ≤ i) ∧ cs.get i = some (lo, v)) := by
    intro i lo v q
    rw [f1, hlen] at q
    split at q
    · rename_i p
      simp only [Option.map_eq_some_iff, Prod.mk.injEq] at q
      obtain ⟨v', e, rfl, rfl⟩ := q
      exact .inl ⟨p.1, p.2, rfl, e⟩
    · exact .inr ⟨by omega, q⟩
  have hisSome : ∀ b, wr (os.get b) = true → wr (h.objs.get b) = true := by
    intro b q
    by_cases e : b = a.b
    · subst e; rw [hget]; rfl
    · rwa [Tr.get_set_ne ho e] at q
  have hfresh : ∀ (cN : CL) b, h.next ≤ b → os.get b = none ∧ ∀ g, addE φ a.b (gen + 1) cN b g = none := by
    intro cN b hb'
    refine ⟨by rw [Tr.get_set_ne ho (by omega)]; exact (H.fresh b hb').1, fun g => ?_⟩
    unfold addE
    rw [if_neg (by omega)]; exact (H.fresh b hb').2 g
  have lall : ∀ i lo v, cs'.get i = some (lo, v) → lo ≤ gen + 1 := by
    intro i lo v hi
    rcases hlo' i lo v hi with ⟨_, _, rfl, _⟩ | ⟨_, e⟩
    · exact Nat.le_refl _
    · have := H.los _ _ _ _ hget _ _ _ e; omega
  have hlos : ∀ b ro gen cs, os.get b = some (.cells ro gen cs) → ∀ i lo v, cs.get i = some (lo, v) → lo ≤ gen := by
    intro b ro gen' cs2 q1 i lo v hi
    by_cases eb : b = a.b
    · subst eb; rw [Tr.get_set_same ho] at q1; cases q1; exact lall i lo v hi
    · rw [Tr.get_set_ne ho eb] at q1; exact H.los _ _ _ _ q1 _ _ _ hi
  refine ⟨gen, cs, hget, hgen, rfl, f2, rfl, ?_, ?_⟩
  · intro c arr t fz arr' us hc hae hao harr hsz hvu hsame hput hroom
    have hext : Ext φ (addE φ a.b (gen + 1) ⟨c.cb, c.co, c.ao, a.i + (len + n) * sz⟩) := addE_ext hnew
    have hcb := H.range _ _ _ hc
    have hat : (setBlock w c.cb (.cells arr' t fz)).heap[c.cb]? = some (.cells arr' t fz) := by
      show (w.heap.setIfInBounds c.cb _)[c.cb]? = _
      rw [Array.getElem?_setIfInBounds_self, if_pos hcb]
    have hne : ∀ cb, cb ≠ c.cb → (setBlock w c.cb (.cells arr' t fz)).heap[cb]? = w.heap[cb]? := by
      intro cb hcb'
      show (w.heap.setIfInBounds c.cb _)[cb]? = _
      rw [Array.getElem?_setIfInBounds_ne (fun e => hcb' e.symm)]
    have hsize : (setBlock w c.cb (.cells arr' t fz)).heap.size = w.heap.size := by
      show (w.heap.setIfInBounds c.cb _).size = _
      rw [Array.size_setIfInBounds]
    have hrows : Rows w (setBlock w c.cb (.cells arr' t fz)) := by
      rintro cb k ⟨arr2, t2, fz2, q1, q2, q3⟩
      by_cases e : cb = c.cb
      · subst e
        rw [harr] at q1; cases q1
        exact ⟨_, _, _, hat, by rw [hsz]; exact q2, by rw [hsz]; exact q3⟩
      · exact ⟨_, _, _, (hne cb e).trans q1, q2, q3⟩
    obtain ⟨hg0, hbase, hlo, arr0, t0, fz0, p0, pf0, pk0⟩ := H.cells _ _ _ _ _ _ hget hc
    rw [harr] at p0; cases p0
    refine ⟨⟨⟨hfresh _, by rw [hsize]; exact H.low, ?_, ?_, hlos, ?_, ?_⟩, hext, hrows, ⟨rfl, rfl, rfl, by rw [hsize]; exact Nat.le_refl _, ?_⟩, ?_, Nat.le_refl _, fun b _ => hisSome b⟩, fun b m n' cur g c' e1 e2 => ?_⟩
    · intro b g c' q
      rw [hsize]
      rcases inv _ b g c' q with ⟨_, _, rfl⟩ | ⟨_, q2⟩
      · exact hcb
      · exact H.range _ _ _ q2
    · intro b g c1 b' g' c2 q q' ec
      rcases inv _ b g c1 q with ⟨rfl, rfl, rfl⟩ | ⟨_, q2⟩ <;> rcases inv _ b' g' c2 q' with ⟨rfl, rfl, rfl⟩ | ⟨_, q2'⟩
      · exact ⟨rfl, rfl, rfl⟩
      · exact H.inj _ _ c _ _ _ hc q2' ec
      · exact H.inj _ _ _ _ _ c q2 hc ec
      · exact H.inj _ _ _ _ _ _ q2 q2' ec
    · intro b ro gen' cs2 g c' q1 q2
      have q1' : os.get b = some (.cells ro gen' cs2) := q1
      by_cases eb : b = a.b
      · subst eb
        rw [Tr.get_set_same ho] at q1'
        cases q1'
        rcases inv _ _ g c' q2 with ⟨_, rfl, rfl⟩ | ⟨hor, q3⟩
        · refine ⟨Nat.le_refl _, hbase, lall, _, _, _, hat, by rw [hsz]; exact pf0, ?_⟩
          intro i lo v hi hle hai hie
          simp only at hai hie ⊢
          rcases hlo' i lo v hi with ⟨e1, e2, _, e4⟩ | ⟨e1, e2⟩
          · obtain ⟨u, r1, r2⟩ := hvu.get _ _ e4
            refine ⟨u, ?_, r2.mono hext hrows, f2 _ (List.mem_of_getElem? e4)⟩
            rw [← hput _ _ r1]; congr 1; omega
          · have hi0 : i < a.i + len * sz := by omega
            obtain ⟨u, r1, r2, r3⟩ := pk0 i lo v e2 (by have := hlo _ _ _ e2; omega) hai (by omega)
            refine ⟨u, ?_, r2.mono hext hrows, r3⟩
            rw [hsame _ (.inl (by omega))]; exact r1
        · obtain ⟨p1, p2, p3, arr2, t2, fz2, pa, pf, pk⟩ := H.cells _ _ _ _ _ _ hget q3
          refine ⟨by omega, p2, lall, ?_⟩
          by_cases ecb : c'.cb = c.cb
          · obtain ⟨_, eco, eao⟩ := H.inj _ _ _ _ _ _ q3 hc ecb
            rw [ecb, harr] at pa; cases pa
            refine ⟨_, _, _, by rw [ecb]; exact hat, by rw [hsz]; exact pf, ?_⟩
            intro i lo v hi hle hai hie
            rcases hlo' i lo v hi with ⟨_, _, e3, _⟩ | ⟨e1, e2⟩
            · omega
            · obtain ⟨u, r1, r2, r3⟩ := pk i lo v e2 hle hai hie
              refine ⟨u, ?_, r2.mono hext hrows, r3⟩
              rw [hsame _ (by omega)]; exact r1
          · refine ⟨_, _, _, (hne _ ecb).trans pa, pf, ?_⟩
            intro i lo v hi hle hai hie
            rcases hlo' i lo v hi with ⟨_, _, e3, _⟩ | ⟨e1, e2⟩
            · omega
            · obtain ⟨u, r1, r2, r3⟩ := pk i lo v e2 hle hai hie
              exact ⟨u, r1, r2.mono hext hrows, r3⟩
      · rw [Tr.get_set_ne ho eb] at q1'
        have q3 : φ b g = some c' := by
          rcases inv _ b g c' q2 with ⟨e, _⟩ | ⟨_, q3⟩
          · exact absurd e eb
          · exact q3
        obtain ⟨p1, p2, p3, arr2, t2, fz2, pa, pf, pk⟩ := H.cells _ _ _ _ _ _ q1' q3
        have ecb : c'.cb ≠ c.cb := fun e => eb (H.inj _ _ _ _ _ _ q3 hc e).1
        refine ⟨p1, p2, p3, _, _, _, (hne _ ecb).trans pa, pf, ?_⟩
        intro i lo v hi hle hai hie
        obtain ⟨u, r1, r2, r3⟩ := pk i lo v hi hle hai hie
        exact ⟨u, r1, r2.mono hext hrows, r3⟩
    · intro b y g c' q1 hy q2
      have q1' : os.get b = some y := q1
      by_cases eb : b = a.b
      · subst eb; rw [Tr.get_set_same ho] at q1'; cases q1'; cases hy
      · rw [Tr.get_set_ne ho eb] at q1'
        have q3 : φ b g = some c' := by
          rcases inv _ b g c' q2 with ⟨e, _⟩ | ⟨_, q3⟩
          · exact absurd e eb
          · exact q3
        obtain ⟨p1, p0, ob, p2, p3⟩ := H.other _ _ _ _ q1' hy q3
        exact ⟨p1, p0, ob, (hne _ fun e => eb (H.inj _ _ _ _ _ _ q3 hc e).1).trans p2, p3.mono hext hrows⟩
    · intro cb hcb' hk
      exact hne cb fun e => hk a.b a.g c hc (by rw [hget]; rfl) e.symm
    · intro b g c' q hlt
      rcases inv _ b g c' q with ⟨rfl, _, rfl⟩ | ⟨_, q2⟩
      · exact ⟨a.g, c, hc, rfl⟩
      · exact ⟨g, c', q2, rfl⟩
    · have eb : b ≠ a.b := by rintro rfl; rw [hget] at e1; cases e1
      exact ⟨hne _ fun e => eb (H.inj _ _ _ _ _ _ e2 hc e).1, by show os.get b = _; rw [Tr.get_set_ne ho eb]⟩
  · intro olds us rest t hvu hol hold
    have hext : Ext φ (addE φ a.b (gen + 1) ⟨w.heap.size, 0, a.i, a.i + (len + n) * sz⟩) := addE_ext hnew
    have hrows := alloc_rows w (.cells (olds ++ us ++ rest).toArray t)
    have hlu := hvu.length
    refine ⟨⟨⟨hfresh _, by rw [alloc_size]; have := H.low; omega, ?_, ?_, hlos, ?_, ?_⟩, hext, hrows, alloc_kept _ _ _ _, ?_, Nat.le_refl _, fun b _ => hisSome b⟩, fun b m n' cur g c' e1 e2 => ⟨alloc_get w _ _ (H.range _ _ _ e2), by
      have eb : b ≠ a.b := by rintro rfl; rw [hget] at e1; cases e1
      show os.get b = _
      rw [Tr.get_set_ne ho eb]⟩⟩
    · intro b g c' q
      rw [alloc_size]
      rcases inv _ b g c' q with ⟨_, _, rfl⟩ | ⟨_, q2⟩
      · exact Nat.lt_succ_self _
      · have := H.range _ _ _ q2; omega
    · intro b g c1 b' g' c2 q q' ec
      rcases inv _ b g c1 q with ⟨rfl, rfl, rfl⟩ | ⟨_, q2⟩ <;> rcases inv _ b' g' c2 q' with ⟨rfl, rfl, rfl⟩ | ⟨_, q2'⟩
      · exact ⟨rfl, rfl, rfl⟩
      · have := H.range _ _ _ q2'; simp only at ec; omega
      · have := H.range _ _ _ q2; simp only at ec; omega
      · exact H.inj _ _ _ _ _ _ q2 q2' ec
    · intro b ro gen' cs2 g c' q1 q2
      have q1' : os.get b = some (.cells ro gen' cs2) := q1
      by_cases eb : b = a.b
      · subst eb
        rw [Tr.get_set_same ho] at q1'
        cases q1'
        rcases inv _ _ g c' q2 with ⟨_, rfl, rfl⟩ | ⟨hor, q3⟩
        · refine ⟨Nat.le_refl _, fun _ => H.low, lall, _, _, _, alloc_new w _, fun _ => ⟨Nat.le_refl _, fun o ho' => by omega⟩, ?_⟩
          · intro i lo v hi hle hai hie
            simp only at hai hie ⊢
            rcases hlo' i lo v hi with ⟨e1, e2, _, e4⟩ | ⟨e1, e2⟩
            · obtain ⟨u, r1, r2⟩ := hvu.get _ _ e4
              refine ⟨u, ?_, r2.mono hext hrows, f2 _ (List.mem_of_getElem? e4)⟩
              rw [List.getElem?_toArray, List.append_assoc, List.getElem?_append_right (by omega), List.getElem?_append_left (by omega), ← r1]
              congr 1; omega
            · obtain ⟨u, r1, r2, r3⟩ := hold (i - a.i) lo v (by omega) (by rw [show a.i + (i - a.i) = i from by omega]; exact e2)
              refine ⟨u, ?_, r2.mono hext hrows, r3⟩
              rw [List.getElem?_toArray, List.append_assoc, List.getElem?_append_left (by omega), ← r1]
              congr 1; omega
        · obtain ⟨p1, p2, p3, arr2, t2, fz2, pa, pf, pk⟩ := H.cells _ _ _ _ _ _ hget q3
          refine ⟨by omega, p2, ?_, _, _, _, (alloc_get w _ _ (H.range _ _ _ q3)).trans pa, pf, ?_⟩
          · intro i lo v hi
            rcases hlo' i lo v hi with ⟨_, _, rfl, _⟩ | ⟨_, e⟩
            · exact Nat.le_refl _
            · have := p3 _ _ _ e; omega
          · intro i lo v hi hle hai hie
            rcases hlo' i lo v hi with ⟨_, _, e3, _⟩ | ⟨e1, e2⟩
            · omega
            · obtain ⟨u, r1, r2, r3⟩ := pk i lo v e2 hle hai hie
              exact ⟨u, r1, r2.mono hext hrows, r3⟩
      · rw [Tr.get_set_ne ho eb] at q1'
        have q3 : φ b g = some c' := by
          rcases inv _ b g c' q2 with ⟨e, _⟩ | ⟨_, q3⟩
          · exact absurd e eb
          · exact q3
        obtain ⟨p1, p2, p3, arr2, t2, fz2, pa, pf, pk⟩ := H.cells _ _ _ _ _ _ q1' q3
        refine ⟨p1, p2, p3, _, _, _, (alloc_get w _ _ (H.range _ _ _ q3)).trans pa, pf, ?_⟩
        intro i lo v hi hle hai hie
        obtain ⟨u, r1, r2, r3⟩ := pk i lo v hi hle hai hie
        exact ⟨u, r1, r2.mono hext hrows, r3⟩
    · intro b y g c' q1 hy q2
      have q1' : os.get b = some y := q1
      by_cases eb : b = a.b
      · subst eb; rw [Tr.get_set_same ho] at q1'; cases q1'; cases hy
      · rw [Tr.get_set_ne ho eb] at q1'
        have q3 : φ b g = some c' := by
          rcases inv _ b g c' q2 with ⟨e, _⟩ | ⟨_, q3⟩
          · exact absurd e eb
          · exact q3
        obtain ⟨p1, p0, ob, p2, p3⟩ := H.other _ _ _ _ q1' hy q3
        exact ⟨p1, p0, ob, (alloc_get w _ _ (H.range _ _ _ q3)).trans p2, p3.mono hext hrows⟩
    · intro b g c' q hlt
      rcases inv _ b g c' q with ⟨rfl, _, rfl⟩ | ⟨_, q2⟩
      · simp only at hlt; omega
      · exact ⟨g, c', q2, rfl⟩
end Go.Vai
