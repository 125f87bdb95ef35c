/- The abstract machine: appends. -/
import Derived.Test.YtbndnhkhphkjgaaGreatDoorVai8
namespace Go.Vai
set_option linter.unusedVariables false
set_option linter.unusedSimpArgs false
set_option linter.unusedSectionVars false
variable [Lane]
variable {P : Program} {base : Nat} {φ φ' φ'' : Emb} {h h' h'' : Heap} {w w' w'' : World}

theorem setCell_block {cb o : Nat} {arr : Array Value} {t : TypeId} {fz : Nat × Nat} (ha : w.heap[cb]? = some (.cells arr t fz)) (u : Value) :
    w.setCell ⟨cb, o, none⟩ u = setBlock w cb (.cells (arr.setIfInBounds o u) t fz) := by
  unfold World.setCell setBlock
  congr 1
  apply Array.ext_getElem?
  intro i
  rw [Array.getElem?_modify]
  by_cases e : cb = i
  · subst e
    have hlt : cb < w.heap.size := by
      rcases Nat.lt_or_ge cb w.heap.size with q | q
      · exact q
      · rw [Array.getElem?_eq_none q] at ha; cases ha
    rw [if_pos rfl, ha, Array.getElem?_setIfInBounds_self, if_pos hlt]; rfl
  · rw [if_neg e, Array.getElem?_setIfInBounds_ne e]
theorem setBlock_twice (w : World) (cb : Nat) (x y : Obj) : setBlock (setBlock w cb x) cb y = setBlock w cb y := by
  unfold setBlock
  congr 1
  apply Array.ext_getElem?
  intro i
  by_cases e : cb = i
  · subst e
    by_cases hlt : cb < w.heap.size
    · rw [Array.getElem?_setIfInBounds_self, Array.getElem?_setIfInBounds_self]
      simp [hlt]
    · rw [Array.getElem?_setIfInBounds_self, Array.getElem?_setIfInBounds_self]
      simp [hlt]
  · rw [Array.getElem?_setIfInBounds_ne e, Array.getElem?_setIfInBounds_ne e, Array.getElem?_setIfInBounds_ne e]
theorem setBlock_at {cb : Nat} {x y : Obj} (hx : w.heap[cb]? = some x) : (setBlock w cb y).heap[cb]? = some y := by
  have hlt : cb < w.heap.size := by
    rcases Nat.lt_or_ge cb w.heap.size with q | q
    · exact q
    · rw [Array.getElem?_eq_none q] at hx; cases hx
  show (w.heap.setIfInBounds cb y)[cb]? = _
  rw [Array.getElem?_setIfInBounds_self, if_pos hlt]
/-- cells stored into a row, whatever the machine's memory says of it -/
theorem storeCells_raw {cb off : Nat} {t : TypeId} {fz : Nat × Nat} : ∀ (us : List Value) (j : Nat) (w : World) (arr : Array Value), w.heap[cb]? = some (.cells arr t fz) →
    (∀ o, o < arr.size → ¬ (fz.1 ≤ o ∧ o < fz.2)) → off + j + us.length ≤ arr.size → (∀ u ∈ us, (∀ cs, u ≠ .agg cs) ∧ (∀ cs, u ≠ .tuple cs)) →
    ∃ arr' : Array Value, (storeCells ⟨cb, off, none⟩ us j).run P w = .ok () (setBlock w cb (.cells arr' t fz)) ∧ arr'.size = arr.size ∧
      (∀ k, (k < off + j ∨ off + j + us.length ≤ k) → arr'[k]? = arr[k]?) ∧ (∀ i u, us[i]? = some u → arr'[off + j + i]? = some u)
  | [], j, w, arr, ha, hf, hz, ho => by
    refine ⟨arr, ?_, rfl, fun _ _ => rfl, by simp⟩
    have : setBlock w cb (.cells arr t fz) = w := by
      unfold setBlock
      have : w.heap.setIfInBounds cb (.cells arr t fz) = w.heap := by
        apply Array.ext_getElem?
        intro i
        by_cases e : cb = i
        · subst e
          rw [Array.getElem?_setIfInBounds_self, ha]
          split
          · rfl
          · rename_i q; rw [Array.getElem?_eq_none (by omega)] at ha; cases ha
        · rw [Array.getElem?_setIfInBounds_ne e]
      rw [this]
    rw [this]; simp [storeCells]
  | u :: us, j, w, arr, ha, hf, hz, ho => by
    simp only [List.length_cons] at hz
    have hlt : off + j < arr.size := by omega
    obtain ⟨o1, o2⟩ := ho u (by simp)
    have hcell : w.cell? ⟨cb, off + j, none⟩ = some arr[off + j] := by
      simp only [World.cell?, ha, Option.isSome_none, Bool.false_eq_true, if_false]
      rw [Array.getElem?_eq_getElem hlt]
    have hfr : w.frozen? ⟨cb, off + j, none⟩ = false := by
      simp only [World.frozen?, ha]
      rw [Bool.eq_false_iff]
      intro q
      simp only [Bool.and_eq_true, decide_eq_true_eq] at q
      exact hf _ hlt q
    have hrun : (store ⟨cb, off + j, none⟩ u).run P w = .ok () (setBlock w cb (.cells (arr.setIfInBounds (off + j) u) t fz)) := by
      rw [← setCell_block ha]
      unfold store
      cases u <;> simp_all [Sem.run]
    obtain ⟨arr', r1, r2, r3, r4⟩ := storeCells_raw (off := off) us (j + 1) (setBlock w cb (.cells (arr.setIfInBounds (off + j) u) t fz)) _ (setBlock_at ha) (by simpa using hf) (by simp; omega) (fun u hu => ho u (by simp [hu]))
    refine ⟨arr', ?_, by rw [r2]; simp, ?_, ?_⟩
    · simp only [storeCells, Sem.run_bind, add_plain, hrun, Result.andThen]
      rw [r1, setBlock_twice]
    · intro k hk
      simp only [List.length_cons] at hk
      have hne : off + j ≠ k := by omega
      rw [r3 k (by omega), Array.getElem?_setIfInBounds_ne hne]
    · intro i v hv
      cases i with
      | zero =>
        simp at hv; subst hv
        rw [r3 _ (.inl (by omega)), Nat.add_zero, Array.getElem?_setIfInBounds_self, if_pos hlt]
      | succ i =>
        simp at hv
        have := r4 i v hv
        rw [← this]; congr 1; omega
/-- cells read from a row, whatever the machine's memory says of it -/
theorem loadCells_raw {cb off : Nat} {t : TypeId} {fz : Nat × Nat} {arr : Array Value} (ha : w.heap[cb]? = some (.cells arr t fz)) : ∀ (n j : Nat) (acc : Array Value), off + j + n ≤ arr.size →
    ∃ us : List Value, (loadCellsFrom ⟨cb, off, none⟩ j n acc).run P w = .ok (acc ++ us.toArray) w ∧ us.length = n ∧ ∀ k, k < n → us[k]? = arr[off + j + k]?
  | 0, j, acc, _ => ⟨[], by simp [loadCellsFrom], rfl, fun k hk => absurd hk (by omega)⟩
  | n + 1, j, acc, hz => by
    have hlt : off + j < arr.size := by omega
    obtain ⟨us, h1, h2, h3⟩ := loadCells_raw (off := off) ha n (j + 1) (acc.push arr[off + j]) (by omega)
    refine ⟨arr[off + j] :: us, ?_, by simp [h2], ?_⟩
    · have hcell : w.cell? ⟨cb, off + j, none⟩ = some arr[off + j] := by
        simp only [World.cell?, ha, Option.isSome_none, Bool.false_eq_true, if_false]
        rw [Array.getElem?_eq_getElem hlt]
      simp only [loadCellsFrom, Sem.run_bind, load, Sem.run, add_plain, hcell, Result.andThen]
      rw [h1]; simp
    · intro k hk
      cases k with
      | zero => simp
      | succ k =>
        rw [List.getElem?_cons_succ, h3 k (by omega)]
        congr 1; omega
theorem drew_rows (w : World) (n : Nat) : Rows w { w with drawn := n } := fun _ _ h => h
theorem drew_step (H : HR base φ h w) (n : Nat) : Step base φ h w φ h { w with drawn := n } := by
  have mono : ∀ {x : AV} {v : Value}, VR φ w x v → VR φ { w with drawn := n } x v := fun k => k.mono (Ext.refl _) (drew_rows w n)
  refine ⟨⟨⟨H.fresh, H.low, H.range, H.inj, H.los, ?_, fun b x g c e1 e2 e3 => by obtain ⟨q1, q2, o, q3, q4⟩ := H.other b x g c e1 e2 e3; exact ⟨q1, q2, o, q3, q4.mono (Ext.refl _) (drew_rows w n)⟩⟩, Ext.refl _, drew_rows w n, ⟨rfl, rfl, rfl, Nat.le_refl _, fun _ _ _ => rfl⟩, fun b g c e _ => ⟨g, c, e, rfl⟩, Nat.le_refl _, fun _ _ q => q⟩, fun _ _ _ _ _ _ _ _ => ⟨rfl, rfl⟩⟩
  intro b ro gen cs g c hg hc
  obtain ⟨q1, q2, q3, arr, t, fz, q4, q5, q6⟩ := H.cells b ro gen cs g c hg hc
  refine ⟨q1, q2, q3, arr, t, fz, q4, q5, ?_⟩
  intro i lo v e1 e2 e3 e4
  obtain ⟨u, r1, r2, r3⟩ := q6 i lo v e1 e2 e3 e4
  exact ⟨u, r1, mono r2, r3⟩
theorem growBy_le (newLen : Nat) : ∀ (r c : Nat), c ≤ 2 * newLen + 192 → Builtin.growBy newLen r c ≤ 2 * newLen + 192
  | 0, c, h => h
  | r + 1, c, h => by
    unfold Builtin.growBy
    split
    · exact h
    · exact growBy_le newLen r _ (by omega)
theorem nextcap_le (newLen oldCap : Nat) (h : oldCap ≤ newLen) : Builtin.nextslicecap newLen oldCap ≤ 2 * newLen + 192 := by
  unfold Builtin.nextslicecap
  split
  · omega
  · split
    · omega
    · exact growBy_le _ _ _ (by omega)
theorem first_none {size : Nat} {x : AV} {xv : Value} (hx : VR φ w x xv) (e : lenA x = some 0) : (Builtin.firstCells size 0 xv).run P w = .ok #[] w := by
  have e0 := e
  unfold lenA at e
  split at e
  · cases hx; simp [Builtin.firstCells]
  · cases e; cases hx <;> simp [Builtin.firstCells, loadCells, loadCellsFrom]
  · obtain ⟨s, _, _, rfl⟩ := hx.vec_str e0
    simp [Builtin.firstCells]
  · cases e
theorem run_typeInfo {t : TypeId} {i : TypeInfo} (h : P.info? t = some i) (w : World) : (typeInfo t).run P w = .ok i w := by simp [typeInfo, h]
theorem run_zeroT' {t : TypeId} {x : AV} (e : zeroT P t = some x) : ∃ z, (∀ w, (zeroValue t).run P w = .ok z w) ∧ ∀ φ w, VR φ w x z := by
  unfold zeroT at e
  simp only [Option.bind_eq_some_iff] at e
  obtain ⟨i, h1, z, h2, h3⟩ := e
  exact ⟨z, fun w => by simp [zeroValue, typeInfo, h1, h2], fun φ w => ofV_VR h3⟩
/-- the reads and questions ahead of an append -/
theorem append_start {ts : Array TypeId} {t u ty el : TypeId} (h0 : ts[0]? = some t) (h1 : ts[1]? = some u) (hm : moreT P u = true) (hu : P.underlying t = some (.slice el))
    {b : Option Addr} {sl cap size n : Nat} {xv : Value} (hs : sizeT P el = some size) (hn : (Builtin.lenOf xv).run P w = .ok n w) :
    (sl + n ≤ cap → (Builtin.append_ ts ty #[.slice b sl cap, xv]).run P w = ((Builtin.firstCells size n xv) >>= fun new => (match b with | some a => storeCells (a.add (sl * size)) new.toList | none => pure ()) >>= fun _ => pure (.slice b (sl + n) cap)).run P w) ∧
    (¬ sl + n ≤ cap → sl + n ≤ 16777216 → ((P.info? el).all fun i => decide (i.bytes ≤ 65536)) = true → ∀ z : AV, zeroT P el = some z → (cellsA z).length = size → ∃ (k : Nat) (rest : List Value), sl + n ≤ k ∧ rest.length = (k - (sl + n)) * size ∧ 
      (Builtin.append_ ts ty #[.slice b sl cap, xv]).run P w = ((Builtin.firstCells size sl (.slice b sl cap)) >>= fun old => (Builtin.firstCells size n xv) >>= fun new => Go.newRow el (old ++ new ++ rest.toArray) >>= fun a => pure (.slice (some a) (sl + n) k)).run P { w with drawn := w.drawn + 1 }) := by
  have hxt : ∃ ut, P.underlying u = some ut ∧ (∀ k, ut ≠ .int k) := by
    unfold moreT at hm
    split at hm
    · cases hm
    · rename_i ut hne e; exact ⟨ut, e, fun k q => hne k q⟩
    · cases hm
  obtain ⟨ut, hut, hint⟩ := hxt
  unfold Builtin.append_
  simp only [h0, h1, List.getElem?_toArray, List.getElem?_cons_zero, List.getElem?_cons_succ]
  simp only [Sem.run_bind, run_underlying hu, Result.andThen_ok, run_sizeT hs, run_underlying hut, Sem.run_pure, Bool.false_eq_true, if_false, hn, Bool.not_false, if_true, false_or]
  refine ⟨fun hle => ?_, fun hnle hsm hb z hz hzl => ?_⟩
  · simp only [hle, if_true]
    cases b <;> simp only [Sem.run_bind, Sem.run_pure, Result.andThen_ok]
  · have hs' := hs
    unfold sizeT at hs'
    simp only [Option.map_eq_some_iff] at hs'
    obtain ⟨info, hi, _⟩ := hs'
    rw [hi] at hb
    simp only [Option.all_some, decide_eq_true_eq] at hb
    have big : ¬ (((sl + n : Nat) : Int) > IntKind.i64.max ∧ info.bytes = 0) := by
      have : IntKind.i64.max = 9223372036854775807 := by decide
      rw [this]; omega
    have cap' : ¬ (Builtin.nextslicecap (sl + n) cap * info.bytes > 2 ^ 48) := by
      have q := nextcap_le (sl + n) cap (by omega)
      have : Builtin.nextslicecap (sl + n) cap * info.bytes ≤ (2 * 16777216 + 192) * 65536 := Nat.mul_le_mul (by omega) hb
      omega
    obtain ⟨zv, z1, z2⟩ := run_zeroT' hz
    have hzs : zv.cells.size = size := by rw [← hzl, (cells_VR (z2 (fun _ _ => none) w)).length, Array.length_toList]
    have hcut : ∃ k, sl + n ≤ k ∧ (Question.appendCap (sl + n) cap el).cut (w.tape w.drawn (Question.appendCap (sl + n) cap el)) = k := ⟨_, by simp only [Question.cut]; omega, rfl⟩
    obtain ⟨k, hk, hcut⟩ := hcut
    refine ⟨k, (Builtin.zeroCells zv.cells (k - (sl + n))).toList, hk, ?_, ?_⟩
    · simp [Builtin.zeroCells, hzs]
    · simp only [hnle, if_false, Sem.run_bind, run_typeInfo hi, Result.andThen_ok, big, cap', run_choose, Question.forced, Bool.false_eq_true, hcut, run_askRoom, z1, Sem.run_pure, Array.toArray_toList]
theorem loadN_length {a : Loc} : ∀ (n j : Nat) (vs : List AV), loadN h a j n = some vs → vs.length = n
  | 0, j, vs, e => by simp only [loadN, Option.some.injEq] at e; subst e; rfl
  | n + 1, j, vs, e => by
    simp only [loadN, Option.bind_eq_some_iff, Option.some.injEq] at e
    obtain ⟨v, _, r, hr, rfl⟩ := e
    simp [loadN_length n (j + 1) r hr]
theorem srcCells_length {size n : Nat} {x : AV} {vs : List AV} (hn : lenA x = some n) (e : srcCells h size n x = some vs) (h0 : ∀ len room sz, x = .slice none len room sz → n = 0) : vs.length = n * size := by
  unfold srcCells at e
  split at e
  · split at e
    case isFalse => cases e
    rename_i l hs
    cases e; subst hs
    simp only [lenA, Option.some.injEq] at hn
    simp [bytesA, hn]
  · cases e
    rw [h0 _ _ _ rfl]; simp
  · split at e
    case isFalse => cases e
    exact loadN_length _ _ _ e
  · split at e
    case isFalse => cases e
    rename_i hs
    subst hs
    simp only [Option.bind_eq_some_iff] at e
    obtain ⟨_, _, e⟩ := e
    rw [transB_length e, Nat.mul_one]
  · cases e
theorem run_newRow (t : TypeId) (cs : Array Value) (w : World) : (Go.newRow t cs).run P w = .ok ⟨w.heap.size, 0, none⟩ (w.alloc (.cells cs t)) := rfl
theorem All2.mem {α β : Type} {R : α → β → Prop} {l : List α} {m : List β} (h : All2 R l m) : ∀ b ∈ m, ∃ a ∈ l, R a b := by
  induction h with
  | nil => intro b hb; cases hb
  | cons h _ ih =>
    intro b hb
    rcases List.mem_cons.mp hb with rfl | hb
    · exact ⟨_, List.mem_cons_self, h⟩
    · obtain ⟨a, h1, h2⟩ := ih b hb; exact ⟨a, List.mem_cons_of_mem _ h1, h2⟩
theorem append_ok (H : HR base φ h w) {ts : Array TypeId} {t u ty : TypeId} (h0 : ts[0]? = some t) (h1 : ts[1]? = some u) (hm : moreT P u = true) {s x : AV} {sv xv : Value} (hs : VR φ w s sv) (hx : VR φ w x xv)
    {r : AV × Heap} (e : appendA P h t s x = some r) :
    ∃ φ' w' v, (Builtin.append_ ts ty #[sv, xv]).run P w = .ok v w' ∧ Step base φ h w φ' r.2 w' ∧ VR φ' w' r.1 v := by
  unfold appendA at e
  split at e
  case h_2 => cases e
  rename_i el hu
  split at e
  case h_2 => cases e
  rename_i a len room sz
  simp only [Option.bind_eq_some_iff] at e
  obtain ⟨size, hsz, n, hn, e⟩ := e
  have hlen := lenOf_ok (P := P) (w := w) hx hn
  split at e
  · rename_i hn0
    subst hn0
    cases e
    cases hs with
    | nilSlice =>
      obtain ⟨q, _⟩ := append_start (ty := ty) (b := none) (sl := 0) (cap := 0) h0 h1 hm hu hsz hlen
      refine ⟨φ, w, _, ?_, Step.refl H, .nilSlice⟩
      rw [q (by omega), Sem.run_bind, first_none hx hn]; rfl
    | slice a ad _ _ _ cap g1 g2 g3 g4 g5 =>
      obtain ⟨q, _⟩ := append_start (ty := ty) (b := some ad) (sl := len) (cap := cap) h0 h1 hm hu hsz hlen
      refine ⟨φ, w, _, ?_, Step.refl H, .slice a ad _ _ _ cap g1 g2 g3 g4 g5⟩
      rw [q (by omega), Sem.run_bind, first_none hx hn]; simp [storeCells]
  · rename_i hn0
    split at e
    case isFalse => cases e
    rename_i hc
    obtain ⟨c1, c2, c3, c4⟩ := hc
    simp only [Option.bind_eq_some_iff] at e
    obtain ⟨vs, hvs, e⟩ := e
    obtain ⟨z, hz, hzl⟩ : ∃ z, zeroT P el = some z ∧ (cellsA z).length = size := by
      cases q : zeroT P el with
      | none => rw [q] at c4; simp at c4
      | some z => rw [q] at c4; exact ⟨z, rfl, by simpa using c4⟩
    have hcap : ∀ a len room sz, x = .slice (some a) len room sz → n ≤ len := by
      rintro a len room sz rfl
      simp only [lenA, Option.some.injEq] at hn; omega
    have hnil : ∀ len room sz, x = .slice none len room sz → n = 0 := by
      rintro len room sz rfl
      cases hx
      simp only [lenA, Option.some.injEq] at hn; omega
    cases hs with
    | nilSlice =>
      simp only [Option.bind_eq_some_iff, Option.some.injEq] at e
      obtain ⟨r', hr', rfl⟩ := e
      obtain ⟨_, q⟩ := append_start (ty := ty) (b := none) (sl := 0) (cap := 0) h0 h1 hm hu hsz hlen
      obtain ⟨k, rest, k1, k2, k3⟩ := q (by omega) c1 c3 z hz hzl
      have H1 := drew_step H (w.drawn + 1)
      obtain ⟨us, u1, u2⟩ := srcCells_ok (P := P) H1.hr (hx.mono H1.ext H1.rows) hvs hcap hnil
      obtain ⟨n1, n2, n3⟩ := newRow_step H1.hr (us' := rest) el u2 hr' (nofrozen _)
      have lens := u2.length
      have hvl := srcCells_length hn hvs hnil
      refine ⟨_, _, .slice (some ⟨w.heap.size, 0, none⟩) (0 + n) k, ?_, Step.trans H H1 n2, ?_⟩
      · rw [k3]
        have f0 : (Builtin.firstCells size 0 (.slice none 0 0)).run P { w with drawn := w.drawn + 1 } = .ok #[] { w with drawn := w.drawn + 1 } := rfl
        simp only [Sem.run_bind, f0, u1, Sem.run_pure, Result.andThen_ok, run_newRow, List.append_toArray, Array.empty_append]
      · simp only [Nat.zero_add]
        refine .slice _ ⟨w.heap.size, 0, none⟩ _ _ _ k (Nat.le_refl _) (by omega) c2 (by simp) (.inr ⟨?_, ?_⟩)
        · rw [n1]; exact ⟨_, addE_same _ _ _ _, by rw [hvl], Nat.le_refl _, by simp⟩
        · refine ⟨_, el, (0, 0), alloc_new _ _, ?_, fz00 _⟩
          simp only [Nat.zero_add] at k2 ⊢
          simp only [List.size_toArray, List.length_append]
          rw [← lens, hvl, k2, ← Nat.add_mul]
          exact Nat.mul_le_mul_right _ (by omega)
    | slice a ad _ _ _ cap g1 g2 g3 g4 g5 =>
      simp only at e
      split at e
      case isFalse => cases e
      rename_i hsize
      subst hsize
      obtain ⟨q, q'⟩ := append_start (ty := ty) (b := some ad) (sl := len) (cap := cap) h0 h1 hm hu hsz hlen
      have hvl := srcCells_length hn hvs hnil
      split at e
      · rename_i hroom
        simp only [Option.bind_eq_some_iff, Option.some.injEq] at e
        obtain ⟨h', hst, rfl⟩ := e
        obtain ⟨us, u1, u2⟩ := srcCells_ok (P := P) H hx hvs hcap hnil
        rcases g5 with g5 | ⟨g5, g6⟩
        · omega
        obtain ⟨w', s1, s2, _⟩ := storeN_cells (P := P) H (g5.shift (len * size)) u2 0 hst
        refine ⟨φ, w', _, ?_, s2, .slice a ad _ _ _ cap hroom g2 g3 g4 (.inr ⟨g5, s2.rows _ _ g6⟩)⟩
        rw [q (by omega)]
        simp only [Sem.run_bind, u1, Result.andThen_ok, s1, Sem.run_pure]
      · rename_i hroom
        have hbound : a.i + len * size ≤ a.e := by
          have := Nat.mul_le_mul_right size g1
          omega
        by_cases hle : len + n ≤ cap
        · rcases g5 with g5 | ⟨g5, arr, t', fz, g6, g7, g8⟩
          · omega
          obtain ⟨us, u1, u2⟩ := srcCells_ok (P := P) H hx hvs hcap hnil
          obtain ⟨gen, cs, d1, d2, d3, d4, d5, d6, _⟩ := grow_step H e g3 hvl hbound
          obtain ⟨c, l1, l2, l3, rfl⟩ := g5
          have lens := u2.length
          have hmm : len * size + n * size ≤ cap * size := by rw [← Nat.add_mul]; exact Nat.mul_le_mul_right _ hle
          have hoc : ∀ u ∈ us, (∀ cs, u ≠ .agg cs) ∧ (∀ cs, u ≠ .tuple cs) := by
            intro u hu
            obtain ⟨v, hv1, hv2⟩ := All2.mem u2 u hu
            exact oneCell_value hv2 (d4 v hv1)
          simp only at g6 g7
          obtain ⟨arr', s1, s2, s3, s4⟩ := storeCells_raw (P := P) (cb := c.cb) (off := c.co + (a.i - c.ao) + len * size) us 0 w arr g6 g8.2 (by omega) hoc
          have st := d6 c arr t' fz arr' us l1 l2 l3 g6 s2 u2 (fun k hk => s3 k (by rw [Nat.add_mul] at hk; omega)) (fun j u hj => by have := s4 j u hj; simpa using this) (by rw [Nat.add_mul]; omega)
          refine ⟨_, _, .slice (some ⟨c.cb, c.co + (a.i - c.ao), none⟩) (len + n) cap, ?_, st, ?_⟩
          · rw [q hle]
            simp only [Sem.run_bind, u1, Result.andThen_ok, add_plain, s1, Sem.run_pure]
          · rw [d3]
            exact .slice _ _ _ _ _ cap (Nat.le_refl _) hle g3 (Nat.le_refl _) (.inr ⟨⟨_, addE_same _ _ _ _, rfl, l3, rfl⟩, st.rows _ _ ⟨arr, t', fz, g6, g7, g8⟩⟩)
        · obtain ⟨k, rest, k1, k2, k3⟩ := q' hle c1 c3 z hz hzl
          have H1 := drew_step H (w.drawn + 1)
          obtain ⟨us, u1, u2⟩ := srcCells_ok (P := P) H1.hr (hx.mono H1.ext H1.rows) hvs hcap hnil
          obtain ⟨gen, cs, d1, d2, d3, d4, d5, _, d6⟩ := grow_step H1.hr e g3 hvl hbound
          have lens := u2.length
          obtain ⟨olds, o1, o2, o3⟩ : ∃ olds : List Value, (Builtin.firstCells size len (.slice (some ad) len cap)).run P { w with drawn := w.drawn + 1 } = .ok olds.toArray { w with drawn := w.drawn + 1 } ∧ olds.length = len * size ∧
              (∀ j lo v, j < len * size → cs.get (a.i + j) = some (lo, v) → ∃ u, olds[j]? = some u ∧ VR φ { w with drawn := w.drawn + 1 } v u ∧ oneCell v = true) := by
            rcases g5 with g5 | ⟨g5, arr, t', fz, g6, g7, g8⟩
            · have : len = 0 := by omega
              subst this
              exact ⟨[], by simp [Builtin.firstCells, loadCells, loadCellsFrom], by simp, fun j lo v hj => absurd hj (by simp)⟩
            · obtain ⟨c, l1, l2, l3, rfl⟩ := g5
              simp only at g6 g7
              have hmm : len * size ≤ cap * size := Nat.mul_le_mul_right _ (by omega)
              obtain ⟨olds, o1, o2, o3⟩ := loadCells_raw (P := P) (w := { w with drawn := w.drawn + 1 }) (off := c.co + (a.i - c.ao)) g6 (len * size) 0 #[] (by omega)
              refine ⟨olds, by simpa [Builtin.firstCells, loadCells] using o1, o2, ?_⟩
              intro j lo v hj hcs
              obtain ⟨p1, p2, p3, arr2, t2, fz2, p4, p5, p6⟩ := H1.hr.cells _ _ _ _ _ _ d1 l1
              rw [show ({ w with drawn := w.drawn + 1 } : World).heap[c.cb]? = w.heap[c.cb]? from rfl, g6] at p4
              cases p4
              obtain ⟨u, r1, r2, r3⟩ := p6 _ _ _ hcs (by rw [d2]; exact p3 _ _ _ hcs) (by omega) (by omega)
              refine ⟨u, ?_, r2, r3⟩
              rw [o3 j hj, ← r1]; congr 1; omega
          have st := d6 olds us rest el u2 o2 o3
          refine ⟨_, _, .slice (some ⟨w.heap.size, 0, none⟩) (len + n) k, ?_, Step.trans H H1 st, ?_⟩
          · rw [k3]
            simp only [Sem.run_bind, o1, u1, Sem.run_pure, Result.andThen_ok, run_newRow, List.append_toArray]
          · rw [d3]
            refine .slice _ ⟨w.heap.size, 0, none⟩ _ _ _ k (Nat.le_refl _) k1 g3 (Nat.le_refl _) (.inr ⟨⟨_, addE_same _ _ _ _, rfl, Nat.le_refl _, by simp⟩, ?_⟩)
            refine ⟨_, el, (0, 0), alloc_new _ _, ?_, fz00 _⟩
            simp only [List.size_toArray, List.length_append, Nat.zero_add]
            rw [o2, ← lens, hvl, k2, ← Nat.add_mul, ← Nat.add_mul]
            exact Nat.mul_le_mul_right _ (by omega)
end Go.Vai
