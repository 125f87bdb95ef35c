/- The abstract machine: copies, conversions. -/
import Derived.Test.YtbndnhkhphkjgaaGreatDoorVai9
import Derived.Laws.BytesString
namespace Go.Vai
set_option linter.unusedVariables false
set_option linter.unusedSimpArgs false
set_option linter.unusedSectionVars false
variable [Lane]
variable {P : Program} {base : Nat} {φ φ' φ'' : Emb} {h h' h'' : Heap} {w w' w'' : World}

theorem srcCells_zero {size : Nat} {x : AV} {vs : List AV} (e : srcCells h size 0 x = some vs) : vs = [] := by
  unfold srcCells at e
  split at e
  · split at e
    case isFalse => cases e
    cases e; simp [bytesA]
  · cases e; rfl
  · split at e
    case isFalse => cases e
    rw [Nat.zero_mul] at e
    simp only [loadN, Option.some.injEq] at e
    exact e.symm
  · split at e
    case isFalse => cases e
    simp only [Option.bind_eq_some_iff] at e
    obtain ⟨_, _, e⟩ := e
    simp only [transB, Option.some.injEq] at e
    exact e.symm
  · cases e
theorem copy_ok (H : HR base φ h w) {ts : Array TypeId} {t ty : TypeId} (h0 : ts[0]? = some t) {d s : AV} {dv sv : Value} (hd : VR φ w d dv) (hs : VR φ w s sv) {r : AV × Heap} (e : copyA P h t d s = some r) :
    ∃ w' v, (Builtin.copy_ ts ty #[dv, sv]).run P w = .ok v w' ∧ Step base φ h w φ r.2 w' ∧ VR φ w' r.1 v := by
  unfold copyA at e
  split at e
  case h_2 => cases e
  rename_i el hu
  split at e
  case h_2 => cases e
  rename_i a dl room sz
  simp only [Option.bind_eq_some_iff] at e
  obtain ⟨size, hsz, sl, hn, vs, hvs, e⟩ := e
  have hlen := lenOf_ok (P := P) (w := w) hs hn
  have hcap : ∀ a len room sz, s = .slice (some a) len room sz → min sl dl ≤ len := by
    rintro a len room sz rfl
    simp only [lenA, Option.some.injEq] at hn; omega
  have hnil : ∀ len room sz, s = .slice none len room sz → min sl dl = 0 := by
    rintro len room sz rfl
    cases hs
    simp only [lenA, Option.some.injEq] at hn; omega
  obtain ⟨us, u1, u2⟩ := srcCells_ok (P := P) H hs hvs hcap hnil
  have hmin : Nat.min sl dl = min sl dl := rfl
  cases hd with
  | nilSlice =>
    cases e
    refine ⟨w, _, ?_, Step.refl H, .int .i64 _⟩
    unfold Builtin.copy_
    simp only [h0, List.getElem?_toArray, List.getElem?_cons_zero, List.getElem?_cons_succ]
    simp only [Sem.run_bind, run_underlying hu, Result.andThen_ok, run_sizeT hsz, hlen, hmin, u1, Sem.run_pure]
    rfl
  | slice a ad _ _ _ cap g1 g2 g3 g4 g5 =>
    simp only at e
    split at e
    case isFalse => cases e
    rename_i hsize
    subst hsize
    simp only [Option.bind_eq_some_iff, Option.some.injEq] at e
    obtain ⟨h', hst, rfl⟩ := e
    obtain ⟨w', s1, s2⟩ : ∃ w', (storeCells ad us 0).run P w = .ok () w' ∧ Step base φ h w φ h' w' := by
      rcases g5 with g5 | ⟨g5, g6⟩
      · have : min sl dl = 0 := by omega
        rw [this] at hvs
        have := srcCells_zero hvs
        subst this
        cases u2
        simp only [storeN, Option.some.injEq] at hst
        subst hst
        exact ⟨w, by simp [storeCells], Step.refl H⟩
      · obtain ⟨w', s1, s2, _⟩ := storeN_cells (P := P) H g5 u2 0 hst
        exact ⟨w', s1, s2⟩
    refine ⟨w', _, ?_, s2, .int .i64 _⟩
    unfold Builtin.copy_
    simp only [h0, List.getElem?_toArray, List.getElem?_cons_zero, List.getElem?_cons_succ]
    simp only [Sem.run_bind, run_underlying hu, Result.andThen_ok, run_sizeT hsz, hlen, hmin, u1, s1, Sem.run_pure]
    rfl
theorem fold_push : ∀ (ns : List Int) (l : List UInt8), ns.foldl (fun (r : ByteArray) n => r.push (UInt8.ofNat n.toNat)) ⟨⟨l⟩⟩ = ⟨⟨l ++ ns.map fun n => UInt8.ofNat n.toNat⟩⟩
  | [], l => by simp
  | n :: ns, l => by
    rw [List.foldl_cons]
    have : (⟨⟨l⟩⟩ : ByteArray).push (UInt8.ofNat n.toNat) = ⟨⟨l ++ [UInt8.ofNat n.toNat]⟩⟩ := by simp [ByteArray.push]
    rw [this, fold_push ns]
    simp
theorem bytes_read {vs : List AV} {us : List Value} (k : All2 (VR φ w) vs us) : ∀ {l : List UInt8}, mapO byteOf vs = some l → ∃ ns : List Int, us = ns.map (Value.int .u8) ∧ (ns.map fun n => UInt8.ofNat n.toNat) = l := by
  induction k with
  | nil => intro l e; simp only [mapO, Option.some.injEq] at e; subst e; exact ⟨[], rfl, rfl⟩
  | @cons a b l' m' hab ht ih =>
    intro l e
    simp only [mapO, Option.bind_eq_some_iff, Option.some.injEq] at e
    obtain ⟨c, hc, r, hr, rfl⟩ := e
    obtain ⟨ns, rfl, rfl⟩ := ih hr
    unfold byteOf at hc
    split at hc
    · rename_i c0
      cases hc; cases hab
      exact ⟨c0 :: ns, by simp, by simp⟩
    · cases hc
/-- a new row whose end may not be written: a string's bytes -/
theorem run_stringish (t : TypeId) (us : List Value) {k : Nat} (hk : us.length = k) (w : World) :
    (markStringish ⟨w.heap.size, 0, none⟩).run P (w.alloc (.cells us.toArray t)) = .ok () (w.alloc (.cells us.toArray t (k, k + 1))) := by
  have hh : (w.alloc (.cells us.toArray t)).shape? w.heap.size = some (t, k) := by
    unfold World.shape?
    rw [alloc_new]
    simp [hk]
  have hf : (w.alloc (.cells us.toArray t)).freeze ⟨w.heap.size, k, none⟩ 1 = w.alloc (.cells us.toArray t (k, k + 1)) := by
    unfold World.freeze
    rw [if_neg (by decide)]
    unfold World.alloc
    congr 1
    apply Array.ext_getElem?
    intro i
    rw [Array.getElem?_modify]
    by_cases e : w.heap.size = i
    · subst e; simp
    · rw [if_neg e]
      rw [Array.getElem?_push, Array.getElem?_push, if_neg (Ne.symm e), if_neg (Ne.symm e)]
  unfold markStringish
  simp only [shape, freeze, Sem.run_bind, Sem.run, Result.andThen, hh, hf]
/-- a row of the model that is marked as the bytes of a string -/
theorem mark_ok (H : HR base φ h w) {a : Loc} {ad : Addr} {gen : Nat} {cs : Tr (Nat × AV)} (hg : h.objs.get a.b = some (.cells false gen cs)) (hL : LR φ a ad) :
    ∃ w', (markStringish ad).run P w = .ok () w' ∧ Step base φ h w φ h w' := by
  obtain ⟨c, h1, h2, h3, rfl⟩ := hL
  obtain ⟨q1, q2, q3, arr, t, fz, q4, q5, q6⟩ := H.cells _ _ _ _ _ _ hg h1
  have hz := q5 rfl
  obtain ⟨lo, hi⟩ := fz
  have hsh : w.shape? c.cb = some (t, arr.size) := by unfold World.shape?; rw [q4]
  let fz' : Nat × Nat := if lo == hi then (arr.size, arr.size + 1) else (min lo arr.size, max hi (arr.size + 1))
  have hcb := H.range _ _ _ h1
  have hw : (w.freeze ⟨c.cb, arr.size, none⟩ 1).heap = w.heap.setIfInBounds c.cb (.cells arr t fz') := by
    unfold World.freeze
    rw [if_neg (by decide)]
    apply Array.ext_getElem?
    intro i
    show (w.heap.modify c.cb _)[i]? = _
    rw [Array.getElem?_modify]
    by_cases e : c.cb = i
    · subst e
      rw [if_pos rfl, q4, Array.getElem?_setIfInBounds_self, if_pos hcb]
      rfl
    · rw [if_neg e, Array.getElem?_setIfInBounds_ne e]
  have hfz : FzOk fz' arr.size := by
    obtain ⟨z1, z2⟩ := hz
    simp only at z1 z2
    show FzOk (if lo == hi then (arr.size, arr.size + 1) else (min lo arr.size, max hi (arr.size + 1))) arr.size
    by_cases e : lo = hi
    · subst e
      simp only [beq_self_eq_true, if_true]
      exact ⟨Nat.le_succ _, fun o ho q => by simp only at q; omega⟩
    · have : (lo == hi) = false := by simpa using e
      simp only [this, Bool.false_eq_true, if_false]
      have hlo : arr.size ≤ lo := by
        rcases Nat.lt_or_ge lo arr.size with k | k
        · exact absurd ⟨Nat.le_refl _, by omega⟩ (z2 lo k)
        · exact k
      refine ⟨by simp only; omega, fun o ho q => ?_⟩
      simp only at q
      omega
  have hrows : Rows w (w.freeze ⟨c.cb, arr.size, none⟩ 1) := by
    rintro cb k ⟨arr2, t2, fz2, p1, p2, p3⟩
    by_cases e : cb = c.cb
    · subst e
      rw [q4] at p1; cases p1
      exact ⟨arr, t, fz', by rw [hw, Array.getElem?_setIfInBounds_self, if_pos hcb], p2, hfz⟩
    · exact ⟨arr2, t2, fz2, by rw [hw, Array.getElem?_setIfInBounds_ne (Ne.symm e)]; exact p1, p2, p3⟩
  have hsz : (w.freeze ⟨c.cb, arr.size, none⟩ 1).heap.size = w.heap.size := by rw [hw, Array.size_setIfInBounds]
  have hrest : (w.freeze ⟨c.cb, arr.size, none⟩ 1).os = w.os ∧ (w.freeze ⟨c.cb, arr.size, none⟩ 1).tape = w.tape ∧ (w.freeze ⟨c.cb, arr.size, none⟩ 1).output = w.output := by
    unfold World.freeze
    rw [if_neg (by decide)]
    exact ⟨rfl, rfl, rfl⟩
  refine ⟨w.freeze ⟨c.cb, arr.size, none⟩ 1, ?_, ?_⟩
  · simp only [markStringish, shape, freeze, Sem.run_bind, Sem.run, hsh, Result.andThen_ok]
  · refine ⟨⟨⟨H.fresh, by rw [hsz]; exact H.low, fun b g c e => by rw [hsz]; exact H.range b g c e, H.inj, H.los, ?_, ?_⟩, Ext.refl _, hrows, ⟨hrest.1, hrest.2.1, hrest.2.2, by rw [hsz]; exact Nat.le_refl _, ?_⟩, fun b g c e _ => ⟨g, c, e, rfl⟩, Nat.le_refl _, fun _ _ e => e⟩, fun b m n cur g c' e1 e2 => ⟨?_, rfl⟩⟩
    · intro b ro gen' cs' g c' e1 e2
      obtain ⟨p1, p2, p3, arr2, t2, fz2, pa, pf, pk⟩ := H.cells _ _ _ _ _ _ e1 e2
      by_cases e : c'.cb = c.cb
      · rw [e, q4] at pa; cases pa
        refine ⟨p1, p2, p3, arr, t, fz', by rw [e, hw, Array.getElem?_setIfInBounds_self, if_pos hcb], fun _ => hfz, ?_⟩
        intro i lo v hi hle hao hie
        obtain ⟨u, r1, r2, r3⟩ := pk i lo v hi hle hao hie
        exact ⟨u, r1, r2.mono (Ext.refl _) hrows, r3⟩
      · refine ⟨p1, p2, p3, arr2, t2, fz2, by rw [hw, Array.getElem?_setIfInBounds_ne (Ne.symm e)]; exact pa, pf, ?_⟩
        intro i lo v hi hle hao hie
        obtain ⟨u, r1, r2, r3⟩ := pk i lo v hi hle hao hie
        exact ⟨u, r1, r2.mono (Ext.refl _) hrows, r3⟩
    · intro b x g c' e1 hx e2
      obtain ⟨r1, r0, ob, r2, r3⟩ := H.other _ _ _ _ e1 hx e2
      have e : c'.cb ≠ c.cb := by
        intro e
        rw [e, q4] at r2; cases r2
        exact r3.notCells
      exact ⟨r1, r0, ob, by rw [hw, Array.getElem?_setIfInBounds_ne (Ne.symm e)]; exact r2, r3.mono (Ext.refl _) hrows⟩
    · intro cb hcb' hk
      have e : cb ≠ c.cb := fun e => hk a.b a.g c h1 (by rw [hg]; rfl) e.symm
      rw [hw, Array.getElem?_setIfInBounds_ne (Ne.symm e)]
    · obtain ⟨_, _, ob, r2, r3⟩ := H.other _ _ _ _ e1 rfl e2
      have e : c'.cb ≠ c.cb := by
        intro e
        rw [e, q4] at r2; cases r2
        exact r3.notCells
      rw [hw, Array.getElem?_setIfInBounds_ne (Ne.symm e)]
theorem convert_ok (H : HR base φ h w) {src dst : TypeId} {x : AV} {xv : Value} (hx : VR φ w x xv) {r : AV × Heap} (e : convertA P h src dst x = some r) :
    ∃ φ' w' v, (convert src dst xv).run P w = .ok v w' ∧ Step base φ h w φ' r.2 w' ∧ VR φ' w' r.1 v := by
  unfold convertA at e
  split at e
  · cases e
  rename_i hsome
  obtain ⟨us, hs⟩ : ∃ us, P.underlying src = some us := by
    cases q : P.underlying src with
    | none => rw [q] at hsome; simp at hsome
    | some us => exact ⟨us, rfl⟩
  split at e
  · split at e
    · rename_i k n _ k' hd
      cases e; cases hx
      refine ⟨φ, w, _, ?_, Step.refl H, .int _ _⟩
      simp [convert, run_underlying hs, run_underlying hd, Conv.intToInt]
    · cases e
  · rename_i l
    split at e
    · rename_i hd
      cases e; cases hx
      refine ⟨φ, w, _, ?_, Step.refl H, .str _⟩
      simp [convert, run_underlying hs, run_underlying hd]
    · rename_i el hd
      split at e
      case h_2 => cases e
      rename_i he
      split at e
      case isFalse => cases e
      rename_i hlen
      simp only [Option.bind_eq_some_iff, Option.some.injEq] at e
      obtain ⟨r', hr', rfl⟩ := e
      cases hx
      have H1 := drew_step H (w.drawn + 1)
      have hcut : ∃ k, l.length ≤ k ∧ (Question.appendCap l.length 0 el).cut (w.tape w.drawn (Question.appendCap l.length 0 el)) = k := ⟨_, by simp only [Question.cut]; omega, rfl⟩
      obtain ⟨k, hk, hcut⟩ := hcut
      obtain ⟨n1, n2, n3⟩ := newRow_step H1.hr (us' := List.replicate (k - l.length) (.int .u8 0)) (fz := (k, k + 1)) el (bytes_all2 l) hr' ⟨Nat.le_succ _, by
        intro o ho q
        simp only [List.length_append, List.length_map, List.length_replicate] at ho
        simp only at q
        omega⟩
      refine ⟨_, _, .slice (some ⟨w.heap.size, 0, none⟩) l.length k, ?_, Step.trans H H1 n2, ?_⟩
      · simp only [convert, Sem.run_bind, run_underlying hs, run_underlying hd, run_underlying he, Result.andThen_ok, Conv.stringToBytes]
        have hsz : (⟨⟨l⟩⟩ : ByteArray).size = l.length := rfl
        have harr : (Array.map (fun (b : UInt8) => Value.int .u8 b.toNat) ⟨l⟩ ++ Array.replicate (k - l.length) (Value.int .u8 0)) = (l.map (fun b => Value.int .u8 b.toNat) ++ List.replicate (k - l.length) (Value.int .u8 0)).toArray := by simp
        have hst := run_stringish (P := P) el (l.map (fun b => Value.int .u8 b.toNat) ++ List.replicate (k - l.length) (Value.int .u8 0)) (k := k) (by simp; omega) { w with drawn := w.drawn + 1 }
        have hst' : (markStringish ⟨w.heap.size, 0, none⟩).run P _ = _ := hst
        simp only [hsz, run_choose, Question.forced, Bool.false_eq_true, if_false, hcut, Result.andThen_ok, harr, run_newRow, hst', Sem.run_pure]
      · refine .slice _ ⟨w.heap.size, 0, none⟩ _ _ _ k (Nat.le_refl _) hk (by decide) (by simp) (.inr ⟨?_, ?_⟩)
        · rw [n1]; exact ⟨_, addE_same _ _ _ _, by simp [bytesA], Nat.le_refl _, by simp⟩
        · refine ⟨_, el, (k, k + 1), alloc_new _ _, by simp; omega, Nat.le_succ _, ?_⟩
          intro o ho q
          simp only [List.size_toArray, List.length_append, List.length_map, List.length_replicate] at ho
          simp only at q
          omega
    · cases e
  · rename_i ls
    split at e
    case h_2 => cases e
    rename_i el hd
    split at e
    case h_2 => cases e
    rename_i he
    simp only [Option.bind_eq_some_iff] at e
    obtain ⟨n, hn, e⟩ := e
    split at e
    case isFalse => cases e
    rename_i hlen
    simp only [Option.bind_eq_some_iff, Option.some.injEq] at e
    obtain ⟨vs, hvs, r', hr', rfl⟩ := e
    obtain ⟨l, k1, k2, rfl⟩ := hx.vec_str hn
    subst k2
    have hall : All2 (VR φ w) vs (l.map fun b => Value.int .u8 b.toNat) := by
      have := transB_ok (φ := φ) (w := w) hvs k1
      rwa [List.take_length] at this
    have hvl : vs.length = l.length := transB_length hvs
    have H1 := drew_step H (w.drawn + 1)
    have hcut : ∃ k, l.length ≤ k ∧ (Question.appendCap l.length 0 el).cut (w.tape w.drawn (Question.appendCap l.length 0 el)) = k := ⟨_, by simp only [Question.cut]; omega, rfl⟩
    obtain ⟨k, hk, hcut⟩ := hcut
    obtain ⟨n1, n2, n3⟩ := newRow_step H1.hr (us' := List.replicate (k - l.length) (.int .u8 0)) (fz := (k, k + 1)) el (hall.step H1) hr' ⟨Nat.le_succ _, by
      intro o ho q
      simp only [List.length_append, List.length_map, List.length_replicate] at ho
      simp only at q
      omega⟩
    refine ⟨_, _, .slice (some ⟨w.heap.size, 0, none⟩) l.length k, ?_, Step.trans H H1 n2, ?_⟩
    · simp only [convert, Sem.run_bind, run_underlying hs, run_underlying hd, run_underlying he, Result.andThen_ok, Conv.stringToBytes]
      have hsz : (⟨⟨l⟩⟩ : ByteArray).size = l.length := rfl
      have harr : (Array.map (fun (b : UInt8) => Value.int .u8 b.toNat) ⟨l⟩ ++ Array.replicate (k - l.length) (Value.int .u8 0)) = (l.map (fun b => Value.int .u8 b.toNat) ++ List.replicate (k - l.length) (Value.int .u8 0)).toArray := by simp
      have hst := run_stringish (P := P) el (l.map (fun b => Value.int .u8 b.toNat) ++ List.replicate (k - l.length) (Value.int .u8 0)) (k := k) (by simp; omega) { w with drawn := w.drawn + 1 }
      have hst' : (markStringish ⟨w.heap.size, 0, none⟩).run P _ = _ := hst
      simp only [hsz, run_choose, Question.forced, Bool.false_eq_true, if_false, hcut, Result.andThen_ok, harr, run_newRow, hst', Sem.run_pure]
    · refine .slice _ ⟨w.heap.size, 0, none⟩ _ _ _ k (Nat.le_refl _) hk (by decide) (by simp) (.inr ⟨?_, ?_⟩)
      · rw [n1]; exact ⟨_, addE_same _ _ _ _, by simp [hvl], Nat.le_refl _, by simp⟩
      · refine ⟨_, el, (k, k + 1), alloc_new _ _, by simp; omega, Nat.le_succ _, ?_⟩
        intro o ho q
        simp only [List.size_toArray, List.length_append, List.length_map, List.length_replicate] at ho
        simp only at q
        omega
  · rename_i a n room sz
    split at e
    case h_2 => cases e
    rename_i el hsl
    split at e
    case h_3 => cases e
    case h_2 =>
      rename_i e' hd
      split at e
      case h_2 => cases e
      rename_i he
      split at e
      case isFalse => cases e
      rename_i hsd
      subst hsd
      unfold sameA at e
      split at e
      case h_2 => cases e
      rename_i a
      split at e
      case h_2 => cases e
      rename_i gen cs hg
      split at e
      case isFalse => cases e
      rename_i hroom
      cases e
      cases hx with
      | slice _ ad _ _ _ cap g1 g2 g3 g4 g5 =>
      have g5' := g5.resolve_left (by omega)
      obtain ⟨w', m1, m2⟩ := mark_ok (P := P) H hg g5'.1
      refine ⟨φ, w', .slice (some ad) n cap, ?_, m2, .slice a ad n room sz cap g1 g2 g3 g4 (.inr ⟨g5'.1, m2.rows _ _ g5'.2⟩)⟩
      simp only [convert, Sem.run_bind, run_underlying hd, Result.andThen_ok, run_underlying he, beq_self_eq_true, m1, Sem.run_pure]
    rename_i hd
    split at e
    case h_2 => cases e
    rename_i he
    split at e
    · cases e; cases hx
      refine ⟨φ, w, _, ?_, Step.refl H, .str []⟩
      rw [run_convert_bytes_string w src dst el _ _ _ hsl he hd]
      rfl
    · rename_i a
      split at e
      case isFalse => cases e
      rename_i hsz
      subst hsz
      simp only [Option.bind_eq_some_iff, Option.map_eq_some_iff] at e
      obtain ⟨vs, hvs, l, hl, rfl⟩ := e
      cases hx with
      | slice _ ad _ _ _ cap g1 g2 g3 g4 g5 =>
      have key : ∃ us : List Value, (loadCells ad n).run P w = .ok us.toArray w ∧ All2 (VR φ w) vs us := by
        rcases g5 with g5 | ⟨g5, _⟩
        · have : n = 0 := by omega
          subst this
          simp only [loadN, Option.some.injEq] at hvs
          subst hvs
          exact ⟨[], by simp [loadCells, loadCellsFrom], .nil⟩
        · obtain ⟨us, q1, q2, _⟩ := loadN_cells (P := P) H g5 n 0 vs #[] hvs
          exact ⟨us, by simpa [loadCells] using q1, q2⟩
      obtain ⟨us, q1, q2⟩ := key
      obtain ⟨ns, rfl, rfl⟩ := bytes_read q2 hl
      refine ⟨φ, w, .string ⟨⟨ns.map fun n => UInt8.ofNat n.toNat⟩⟩, ?_, Step.refl H, .str _⟩
      rw [run_convert_bytes_string w src dst el _ _ _ hsl he hd, run_bytesToString w ad n cap ns q1]
      have := fold_push ns []
      rw [List.nil_append] at this
      rw [← this]; rfl
  · cases e
end Go.Vai
