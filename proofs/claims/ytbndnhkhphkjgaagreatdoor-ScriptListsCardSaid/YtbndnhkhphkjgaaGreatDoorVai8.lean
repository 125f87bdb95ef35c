/- The abstract machine: iterators over strings; appends, copies, conversions. -/
import Derived.Test.YtbndnhkhphkjgaaGreatDoorVai7
namespace Go.Vai
set_option linter.unusedVariables false
set_option linter.unusedSimpArgs false
set_option linter.unusedSectionVars false
variable [Lane]
variable {P : Program} {base : Nat} {φ φ' φ'' : Emb} {h h' h'' : Heap} {w w' w'' : World}

theorem rangeV_ok (H : HR base φ h w) {t : TypeId} {x : AV} {xv : Value} (hx : VR φ w x xv) {r : ANext} (e : rangeV P t h x = some r) :
    ∃ v h' φ' w' u, r = .val v h' ∧ (Instr.range t xv).run P w = .ok u w' ∧ Step base φ h w φ' h' w' ∧ VR φ' w' v u := by
  unfold rangeV at e
  split at e
  · rename_i hu
    split at e
    case h_3 => cases e
    case h_2 =>
      rename_i ls
      simp only [Option.map_eq_some_iff, newObj, Option.bind_eq_some_iff, Option.some.injEq] at e
      obtain ⟨n, hn, r', ⟨os, ho, rfl⟩, rfl⟩ := e
      obtain ⟨s, k1, k2, rfl⟩ := hx.vec_str hn
      have st := new_step H (.viter ls 0) (.stringIter ⟨⟨s⟩⟩ 0) os ho 1 (.inr ⟨rfl, .viter ls s 0 k1⟩)
      refine ⟨_, _, _, _, .pointer (some ⟨w.heap.size, 0, none⟩), rfl, ?_, st, .ptr _ _ ⟨_, addE_same _ _ _ _, rfl, Nat.le_refl _, by simp⟩⟩
      unfold Instr.range
      simp only [Sem.run_bind, run_underlying hu, Result.andThen_ok, Sem.run_pure, run_newObj]
      rfl
    rename_i l
    simp only [Option.map_eq_some_iff, newObj, Option.bind_eq_some_iff, Option.some.injEq] at e
    obtain ⟨r', ⟨os, ho, rfl⟩, rfl⟩ := e
    cases hx
    have st := new_step H (.iter l 0) (.stringIter ⟨⟨l⟩⟩ 0) os ho 1 (.inr ⟨rfl, .iter l 0⟩)
    refine ⟨_, _, _, _, .pointer (some ⟨w.heap.size, 0, none⟩), rfl, ?_, st, .ptr _ _ ⟨_, addE_same _ _ _ _, rfl, Nat.le_refl _, by simp⟩⟩
    unfold Instr.range
    simp only [Sem.run_bind, run_underlying hu, Result.andThen_ok, Sem.run_pure, run_newObj]
    rfl
  · rename_i kt el hu
    split at e
    case h_2 => cases e
    rename_i b
    split at e
    case h_2 => cases e
    rename_i es hg
    split at e
    · rename_i hle
      simp only [Option.map_eq_some_iff, newObj, Option.bind_eq_some_iff, Option.some.injEq] at e
      obtain ⟨r', ⟨os, ho, rfl⟩, rfl⟩ := e
      cases hx with
      | map _ c hc =>
      obtain ⟨_, _, o, q3, q4⟩ := H.other _ _ _ _ hg rfl hc
      cases q4 with
      | map _ ms k1 k2 =>
      have hn : ms.size = es.length := by rw [k1.length, Array.length_toList]
      have st := new_step H (.miter b es.length false) (.mapIter (some c.cb) es.length #[] es.length) os ho 1 (.inr ⟨rfl, .miter b es.length c false hc hle⟩)
      refine ⟨_, _, _, _, .pointer (some ⟨w.heap.size, 0, none⟩), rfl, ?_, st, .ptr _ _ ⟨_, addE_same _ _ _ _, rfl, Nat.le_refl _, by simp⟩⟩
      unfold Instr.range
      simp only [Sem.run_bind, run_underlying hu, getObj, Sem.run, q3, Result.andThen_ok, Sem.run_pure, run_newObj, hn]
      rfl
    simp only [Option.map_eq_some_iff, newObj, Option.bind_eq_some_iff, Option.some.injEq] at e
    obtain ⟨r', ⟨os, ho, rfl⟩, rfl⟩ := e
    cases hx with
    | map _ c hc =>
    obtain ⟨_, _, o, q3, q4⟩ := H.other _ _ _ _ hg rfl hc
    cases q4 with
    | map _ ms k1 k2 =>
    have hn : ms.size = es.length := by rw [k1.length, Array.length_toList]
    have st := new_step H (.mapit b es.length none) (.mapIter (some c.cb) es.length #[] es.length) os ho 1 (.inr ⟨rfl, .mapit b es.length c #[] none hc (by simp) (by simp) (by simp)⟩)
    refine ⟨_, _, _, _, .pointer (some ⟨w.heap.size, 0, none⟩), rfl, ?_, st, .ptr _ _ ⟨_, addE_same _ _ _ _, rfl, Nat.le_refl _, by simp⟩⟩
    unfold Instr.range
    simp only [Sem.run_bind, run_underlying hu, getObj, Sem.run, q3, Result.andThen_ok, Sem.run_pure, run_newObj, hn]
    rfl
  · cases e
/-- an object that is no row, turned into another -/
theorem obj_wstep (H : HR base φ h w) {b g : Nat} {c : CL} {x x' : AObj} {o' : Obj} {os : Tr AObj} (hg : h.objs.get b = some x) (hx : isCells x = false) (hc : φ b g = some c) (ho : h.objs.set b x' = some os)
    (hx' : isCells x' = false) (hr : ObjR φ w x' o') : WStep base φ h w φ { h with objs := os } (setBlock w c.cb o') := by
  obtain ⟨q1, q0, oo, q2, q3⟩ := H.other _ _ _ _ hg hx hc
  have hcb := H.range _ _ _ hc
  have hat : (setBlock w c.cb o').heap[c.cb]? = some o' := by
    show (w.heap.setIfInBounds c.cb _)[c.cb]? = _
    rw [Array.getElem?_setIfInBounds_self, if_pos hcb]
  have hne : ∀ cb, cb ≠ c.cb → (setBlock w c.cb o').heap[cb]? = w.heap[cb]? := by
    intro cb hcb'
    show (w.heap.setIfInBounds c.cb _)[cb]? = _
    rw [Array.getElem?_setIfInBounds_ne (fun e => hcb' e.symm)]
  have hsize : (setBlock w c.cb o').heap.size = w.heap.size := by
    show (w.heap.setIfInBounds c.cb _).size = _
    rw [Array.size_setIfInBounds]
  have hrows : Rows w (setBlock w c.cb o') := by
    rintro cb k ⟨arr2, t2, fz2, p1, p2, p3⟩
    by_cases e : cb = c.cb
    · subst e; rw [q2] at p1; cases p1; exact q3.notCells.elim
    · exact ⟨_, _, _, (hne cb e).trans p1, p2, p3⟩
  have hb : b < h.next := H.below hc
  refine ⟨⟨?_, by rw [hsize]; exact H.low, fun b g c e => by rw [hsize]; exact H.range _ _ _ e, H.inj, ?_, ?_, ?_⟩, Ext.refl _, hrows, ⟨rfl, rfl, rfl, by rw [hsize]; exact Nat.le_refl _, ?_⟩, fun b g c e _ => ⟨g, c, e, rfl⟩, Nat.le_refl _, ?_⟩
  · intro b' hb'
    obtain ⟨r1, r2⟩ := H.fresh b' hb'
    have hb2 : h.next ≤ b' := hb'
    exact ⟨by show os.get b' = none; rw [Tr.get_set_ne ho (by omega)]; exact r1, r2⟩
  · intro b' ro gen cs e1 i lo v hi
    have e1' : os.get b' = some (.cells ro gen cs) := e1
    by_cases eb : b' = b
    · subst eb; rw [Tr.get_set_same ho] at e1'; cases e1'; cases hx'
    · rw [Tr.get_set_ne ho eb] at e1'; exact H.los _ _ _ _ e1' _ _ _ hi
  · intro b' ro gen cs g' c' e1 e2
    have e1' : os.get b' = some (.cells ro gen cs) := e1
    by_cases eb : b' = b
    · subst eb; rw [Tr.get_set_same ho] at e1'; cases e1'; cases hx'
    · rw [Tr.get_set_ne ho eb] at e1'
      obtain ⟨p1, p2, p3, arr, t, fz, pa, pf, pk⟩ := H.cells _ _ _ _ _ _ e1' e2
      have ecb : c'.cb ≠ c.cb := fun e => eb (H.inj _ _ _ _ _ _ e2 hc e).1
      refine ⟨p1, p2, p3, arr, t, fz, (hne _ ecb).trans pa, pf, ?_⟩
      intro i lo v hi hle hao hie
      obtain ⟨u, r1, r2, r3⟩ := pk i lo v hi hle hao hie
      exact ⟨u, r1, r2.mono (Ext.refl _) hrows, r3⟩
  · intro b' y g' c' e1 hy e2
    have e1' : os.get b' = some y := e1
    by_cases eb : b' = b
    · subst eb
      rw [Tr.get_set_same ho] at e1'
      cases e1'
      obtain ⟨r1, r0, r2⟩ := H.other _ _ _ _ hg hx e2
      have : c' = c := by
        rw [r0.2] at e2; rw [q0.2] at hc; rw [e2] at hc; exact Option.some.inj hc
      subst this
      exact ⟨r1, r0, o', hat, hr.mono (Ext.refl _) hrows⟩
    · rw [Tr.get_set_ne ho eb] at e1'
      obtain ⟨r1, r0, ob, r2, r3⟩ := H.other _ _ _ _ e1' hy e2
      exact ⟨r1, r0, ob, (hne _ fun e => eb (H.inj _ _ _ _ _ _ e2 hc e).1).trans r2, r3.mono (Ext.refl _) hrows⟩
  · intro cb hcb' hk
    exact hne cb fun e => hk b g c hc (by rw [hg]; exact wr_other hx) e.symm
  · intro b' _ e
    have e' : wr (os.get b') = true := e
    by_cases eb : b' = b
    · subst eb; rw [hg]; exact wr_other hx
    · rwa [Tr.get_set_ne ho eb] at e'
theorem obj_step (H : HR base φ h w) {b g : Nat} {c : CL} {x x' : AObj} {o' : Obj} {os : Tr AObj} (hg : h.objs.get b = some x) (hx : isCells x = false) (hni : ∀ m n cur, x ≠ .mapit m n cur) (hc : φ b g = some c) (ho : h.objs.set b x' = some os)
    (hx' : isCells x' = false) (hr : ObjR φ w x' o') : Step base φ h w φ { h with objs := os } (setBlock w c.cb o') :=
  ⟨obj_wstep H hg hx hc ho hx' hr, fun b' m n cur g' c' e1 e2 => by
    have eb : b' ≠ b := by rintro rfl; rw [hg] at e1; exact hni _ _ _ (Option.some.inj e1)
    refine ⟨?_, by show os.get b' = _; rw [Tr.get_set_ne ho eb]⟩
    show (w.heap.setIfInBounds c.cb _)[c'.cb]? = _
    rw [Array.getElem?_setIfInBounds_ne (fun e => eb (H.inj _ _ _ _ _ _ e2 hc e.symm).1)]⟩
/-- an iterator goes on -/
theorem iter_step (H : HR base φ h w) {b g : Nat} {c : CL} {s : List UInt8} {pos pos' : Nat} {os : Tr AObj} (hg : h.objs.get b = some (.iter s pos)) (hc : φ b g = some c) (ho : h.objs.set b (.iter s pos') = some os) :
    Step base φ h w φ { h with objs := os } (setBlock w c.cb (.stringIter ⟨⟨s⟩⟩ pos')) := obj_step H hg rfl (by simp) hc ho rfl (.iter s pos')

theorem nextA_ok (H : HR base φ h w) {x : AV} {xv : Value} {ty : TypeId} (hx : VR φ w x xv) {r : AV × Heap} (e : nextA h x = some r) :
    ∃ w' u, (Instr.next xv true ty).run P w = .ok u w' ∧ Step base φ h w φ r.2 w' ∧ VR φ w' r.1 u := by
  unfold nextA at e
  split at e
  case h_2 => cases e
  rename_i a
  split at e
  case h_3 => cases e
  case h_2 =>
    rename_i ss pos hg
    split at e
    case isFalse => cases e
    rename_i hi
    split at e
    case h_2 => cases e
    rename_i n hlen
    cases hx with
    | ptr _ ad hL =>
    obtain ⟨c, h1, h2, h3, rfl⟩ := hL
    obtain ⟨q1, q0, oo, q2, q3⟩ := H.other _ _ _ _ hg rfl h1
    cases q3 with
    | viter _ s _ hs =>
    have hn : s.length = n := by
      obtain ⟨s', e1, e2⟩ := lenA_vec hlen _ (List.mem_of_getElem? hs)
      cases e1; exact e2
    have off0 : c.co + (a.i - c.ao) = 0 := by omega
    rw [off0]
    split at e
    · rename_i hlt
      simp only [Option.bind_eq_some_iff, Option.some.injEq] at e
      obtain ⟨rs, hrs, rv, hrv, d, hd, os, ho, rfl⟩ := e
      obtain ⟨y, m1, m2⟩ := mapO_at hrs _ _ hs
      cases m2
      have hw : (decodeA s pos).2 = d := by
        obtain ⟨s', e1, e2⟩ := widthV_ok hd _ (List.mem_of_getElem? hs)
        cases e1; exact e2
      have st : Step base φ h w φ { h with objs := os } (setBlock w c.cb (.stringIter ⟨⟨s⟩⟩ (pos + d))) := obj_step H hg rfl (by simp) h1 ho rfl (.viter ss s (pos + d) hs)
      have hv : VR φ (setBlock w c.cb (.stringIter ⟨⟨s⟩⟩ (pos + d))) rv (.int .i32 (decodeA s pos).1) := collapse_ok hrv m1 (.int _ _)
      refine ⟨_, _, ?_, st, .tup _ [.bool true, .int .i64 pos, .int .i32 (decodeA s pos).1] (.cons (.bool _) (.cons (.int _ _) (.cons hv .nil)))⟩
      have hlt' : pos < (⟨⟨s⟩⟩ : ByteArray).size := by show pos < s.length; omega
      subst hw
      simp only [Instr.next, getObj, setObj, Sem.run_bind, Sem.run, q2, Result.andThen, hlt', if_true]
      rfl
    · rename_i hlt
      cases e
      refine ⟨w, _, ?_, Step.refl H, .tup _ [.bool false] (.cons (.bool _) .nil)⟩
      have hlt' : ¬ pos < (⟨⟨s⟩⟩ : ByteArray).size := by show ¬ pos < s.length; omega
      simp only [Instr.next, getObj, Sem.run_bind, Sem.run, q2, Result.andThen, hlt', if_false]
      rfl
  rename_i s pos hg
  split at e
  case isFalse => cases e
  rename_i hi
  cases hx with
  | ptr _ ad hL =>
  obtain ⟨c, h1, h2, h3, rfl⟩ := hL
  obtain ⟨q1, q0, q2⟩ := H.iter _ _ _ _ _ hg h1
  have off0 : c.co + (a.i - c.ao) = 0 := by omega
  rw [off0]
  split at e
  · rename_i hlt
    simp only [Option.bind_eq_some_iff, Option.some.injEq] at e
    obtain ⟨os, ho, rfl⟩ := e
    refine ⟨_, _, ?_, iter_step H hg h1 ho, .tup _ [.bool true, .int .i64 pos, .int .i32 (decodeA s pos).1] (.cons (.bool _) (.cons (.int _ _) (.cons (.int _ _) .nil)))⟩
    have hlt' : pos < (⟨⟨s⟩⟩ : ByteArray).size := hlt
    simp only [Instr.next, getObj, setObj, Sem.run_bind, Sem.run, q2, Result.andThen, hlt', if_true]
    rfl
  · rename_i hlt
    cases e
    refine ⟨w, _, ?_, Step.refl H, .tup _ [.bool false] (.cons (.bool _) .nil)⟩
    have hlt' : ¬ pos < (⟨⟨s⟩⟩ : ByteArray).size := hlt
    simp only [Instr.next, getObj, Sem.run_bind, Sem.run, q2, Result.andThen, hlt', if_false]
    rfl

theorem lenOf_ok {x : AV} {xv : Value} (hx : VR φ w x xv) {n : Nat} (e : lenA x = some n) : (Builtin.lenOf xv).run P w = .ok n w := by
  have e0 := e
  unfold lenA at e
  split at e
  · cases e; cases hx; rfl
  · cases e; cases hx <;> rfl
  · obtain ⟨s, k1, k2, rfl⟩ := hx.vec_str e0
    subst k2; rfl
  · cases e
theorem bytes_all2 (l : List UInt8) : All2 (VR φ w) (bytesA l) (l.map fun b => Value.int .u8 b.toNat) := by
  unfold bytesA; exact All2.map (fun c => .int _ _) l
/-- the first cells of what is appended or copied -/
theorem srcCells_ok (H : HR base φ h w) {size n : Nat} {x : AV} {xv : Value} {vs : List AV} (hx : VR φ w x xv) (e : srcCells h size n x = some vs) (hcap : ∀ a len room sz, x = .slice (some a) len room sz → n ≤ len) (hnil : ∀ len room sz, x = .slice none len room sz → n = 0) :
    ∃ us : List Value, (Builtin.firstCells size n xv).run P w = .ok us.toArray w ∧ All2 (VR φ w) vs us := by
  unfold srcCells at e
  split at e
  · rename_i l
    split at e
    case isFalse => cases e
    cases e; cases hx
    refine ⟨(l.take n).map fun b => Value.int .u8 b.toNat, ?_, bytes_all2 _⟩
    simp only [Builtin.firstCells, Sem.run_pure, extract_mk]
    simp
  · cases e; cases hx
    exact ⟨[], rfl, .nil⟩
  · rename_i a len room sz
    split at e
    case isFalse => cases e
    rename_i hsz
    subst hsz
    cases hx with
    | slice _ ad _ _ _ cap hn hr hz he hh =>
    have hle := hcap _ _ _ _ rfl
    rcases hh with hh | ⟨hL, _⟩
    · have : n = 0 := by omega
      subst this
      simp only [Nat.zero_mul, loadN, Option.some.injEq] at e
      subst e
      exact ⟨[], by simp [Builtin.firstCells, loadCells, loadCellsFrom], .nil⟩
    · obtain ⟨us, r1, r2, _⟩ := loadN_cells (P := P) H hL (n * sz) 0 vs #[] e
      exact ⟨us, by simpa [Builtin.firstCells, loadCells] using r1, r2⟩
  · rename_i ls
    split at e
    case isFalse => cases e
    simp only [Option.bind_eq_some_iff] at e
    obtain ⟨m, hm, e⟩ := e
    obtain ⟨s, k1, k2, rfl⟩ := hx.vec_str hm
    refine ⟨(s.take n).map fun b => Value.int .u8 b.toNat, ?_, transB_ok e k1⟩
    simp only [Builtin.firstCells, Sem.run_pure, extract_mk]
    simp
  · cases e
theorem find_born {ms : Array MapEntry} (hb : ∀ (i : Nat) (m : MapEntry), ms[i]? = some m → m.born = i) {j : Nat} {m : MapEntry} (hj : ms[j]? = some m) : ms.find? (·.born == j) = some m := by
  rw [← Array.find?_toList]
  have key : ∀ (l : List MapEntry) (k : Nat), (∀ (i : Nat) (m : MapEntry), l[i]? = some m → m.born = k + i) → ∀ (i : Nat) (m : MapEntry), l[i]? = some m → l.find? (·.born == k + i) = some m := by
    intro l
    induction l with
    | nil => intro k _ i m q; simp at q
    | cons a l ih =>
      intro k hk i m q
      have h0 := hk 0 a (by simp)
      cases i with
      | zero =>
        simp only [List.getElem?_cons_zero, Option.some.injEq] at q
        subst q
        rw [List.find?_cons]
        simp [h0]
      | succ i =>
        rw [List.find?_cons]
        have : (a.born == k + (i + 1)) = false := by rw [h0]; simp
        rw [this]
        have := ih (k + 1) (fun i m q => by have := hk (i + 1) m (by simpa using q); omega) i m (by simpa using q)
        rw [show k + (i + 1) = k + 1 + i by omega]
        exact this
  have := key ms.toList 0 (fun i m q => by rw [Nat.zero_add]; exact hb i m (by simpa using q)) j m (by simpa using hj)
  rwa [Nat.zero_add] at this
theorem entryM_ok (H : HR base φ h w) {x v : AV} {xv : Value} (hx : VR φ w x xv) (e : entryM h x = some v) : ∃ u, (Instr.entry xv).run P w = .ok u w ∧ VR φ w v u := by
  unfold entryM at e
  split at e
  case h_2 => cases e
  rename_i a
  split at e
  case h_3 => cases e
  case h_2 =>
    rename_i m n hg
    split at e
    case isFalse => cases e
    rename_i hi
    split at e
    case h_2 => cases e
    rename_i es hm
    split at e
    case isFalse => cases e
    rename_i hn
    split at e
    case h_2 => cases e
    rename_i en
    cases e
    cases hx with
    | ptr _ ad hL =>
    obtain ⟨c, h1, h2, h3, rfl⟩ := hL
    obtain ⟨_, q0, o, q2, q3⟩ := H.other _ _ _ _ hg rfl h1
    have off0 : c.co + (a.i - c.ao) = 0 := by omega
    rw [off0]
    cases q3 with
    | miter _ _ cm _ hcm hn1 =>
    obtain ⟨_, _, om, r2, r3⟩ := H.other _ _ _ _ hm rfl hcm
    cases r3 with
    | map _ ms k1 k2 =>
    obtain ⟨x, hx1, hx2⟩ := k1.get 0 _ rfl
    have hx1' : ms[0]? = some x := by simpa using hx1
    have hf := find_born k2 hx1'
    have hsz : ms.size = n := by rw [← hn, k1.length, Array.length_toList]
    refine ⟨.tuple #[x.key, x.val], ?_, .tup _ _ (.cons hx2.key (.cons hx2.val .nil))⟩
    simp only [if_true] at q2
    simp only [Instr.entry, getObj, Sem.run_bind, Sem.run, q2, r2, Result.andThen_ok, hsz, bne_self_eq_false, Bool.false_eq_true, if_false, Sem.run_pure]
    have hb : (#[0] : Array Nat).back? = some 0 := rfl
    simp only [hb, Sem.run_bind, Sem.run, r2, Result.andThen_ok, hsz, bne_self_eq_false, Bool.false_eq_true, if_false, hf, Sem.run_pure]
  rename_i m n j hg
  split at e
  case isFalse => cases e
  rename_i hi
  split at e
  case h_2 => cases e
  rename_i es hm
  split at e
  case isFalse => cases e
  rename_i hn
  simp only [Option.map_eq_some_iff] at e
  obtain ⟨en, hen, rfl⟩ := e
  cases hx with
  | ptr _ ad hL =>
  obtain ⟨c, h1, h2, h3, rfl⟩ := hL
  obtain ⟨_, q0, o, q2, q3⟩ := H.other _ _ _ _ hg rfl h1
  have off0 : c.co + (a.i - c.ao) = 0 := by omega
  rw [off0]
  cases q3 with
  | mapit _ _ cm seen _ hcm hs hd hcur =>
  obtain ⟨_, _, om, r2, r3⟩ := H.other _ _ _ _ hm rfl hcm
  cases r3 with
  | map _ ms k1 k2 =>
  obtain ⟨x, hx1, hx2⟩ := k1.get _ _ hen
  have hx1' : ms[j]? = some x := by simpa using hx1
  have hf := find_born k2 hx1'
  have hsz : ms.size = n := by rw [← hn, k1.length, Array.length_toList]
  refine ⟨.tuple #[x.key, x.val], ?_, .tup _ _ (.cons hx2.key (.cons hx2.val .nil))⟩
  simp only [Instr.entry, getObj, Sem.run_bind, Sem.run, q2, hcur j rfl, r2, Result.andThen_ok, hsz, bne_self_eq_false, Bool.false_eq_true, if_false, hf, Sem.run_pure]
/-- the next entry of a map that has one at most -/
theorem nextM_ok (H : HR base φ h w) {x : AV} {xv : Value} {ty : TypeId} (hx : VR φ w x xv) {r : AV × Heap} (e : nextM h x = some r) :
    ∃ w' u, (Instr.next xv false ty).run P w = .ok u w' ∧ Step base φ h w φ r.2 w' ∧ VR φ w' r.1 u := by
  unfold nextM at e
  split at e
  case h_2 => cases e
  rename_i a
  split at e
  case h_2 => cases e
  rename_i m n seen hg
  split at e
  case isFalse => cases e
  rename_i hi
  split at e
  case h_2 => cases e
  rename_i es hm
  split at e
  case isFalse => cases e
  rename_i hn
  cases hx with
  | ptr _ ad hL =>
  obtain ⟨c, h1, h2, h3, rfl⟩ := hL
  obtain ⟨_, q0, o, q2, q3⟩ := H.other _ _ _ _ hg rfl h1
  have off0 : c.co + (a.i - c.ao) = 0 := by omega
  rw [off0]
  cases q3 with
  | miter _ _ cm _ hcm hn1 =>
  obtain ⟨_, _, om, r2, r3⟩ := H.other _ _ _ _ hm rfl hcm
  cases r3 with
  | map _ ms k1 k2 =>
  have hsz : ms.size = n := by rw [← hn, k1.length, Array.length_toList]
  split at e
  · -- no entry
    cases e
    have hms : ms = #[] := by
      have : ms.size = 0 := by rw [hsz, ← hn]; rfl
      exact Array.eq_empty_of_size_eq_zero this
    subst hms
    have hn0 : n = 0 := by rw [← hn]; rfl
    subst hn0
    refine ⟨w, .tuple #[.bool false], ?_, Step.refl H, .tup _ _ (.cons (.bool _) .nil)⟩
    cases seen <;> simp [Instr.next, getObj, Sem.run_bind, Sem.run, q2, r2, Result.andThen, choose, Question.forced]
  · -- one
    rename_i en
    have hn1' : n = 1 := by rw [← hn]; rfl
    subst hn1'
    obtain ⟨x0, hx1, hx2⟩ := k1.get 0 _ rfl
    have hx1' : ms[0]? = some x0 := by simpa using hx1
    have hms : ms = #[x0] := by
      apply Array.ext
      · simpa using hsz
      · intro i h1 h2
        have : i = 0 := by omega
        subst this
        have := (Array.getElem?_eq_some_iff.1 hx1').2
        simpa using this
    have hb0 : x0.born = 0 := k2 0 x0 hx1'
    subst hms
    cases seen with
    | true =>
      simp only [if_true, Option.some.injEq] at e
      subst e
      refine ⟨w, .tuple #[.bool false], ?_, Step.refl H, .tup _ _ (.cons (.bool _) .nil)⟩
      simp [Instr.next, getObj, Sem.run_bind, Sem.run, q2, r2, Result.andThen, choose, Question.forced, hb0]
    | false =>
      simp only [Bool.false_eq_true, if_false, Option.map_eq_some_iff] at e
      obtain ⟨os, ho, rfl⟩ := e
      have st : Step base φ h w φ { h with objs := os } (setBlock w c.cb (.mapIter (some cm.cb) 1 #[0] 1)) := obj_step H hg rfl (by simp) h1 ho rfl (.miter m 1 cm true hcm (Nat.le_refl _))
      refine ⟨_, .tuple #[.bool true, x0.key, x0.val], ?_, st, .tup _ _ (.cons (.bool _) (.cons (hx2.key.mono st.ext st.rows) (.cons (hx2.val.mono st.ext st.rows) .nil)))⟩
      simp [Instr.next, getObj, setObj, Sem.run_bind, Sem.run, q2, r2, Result.andThen, choose, Question.forced, hb0]
      rfl
  · cases e
end Go.Vai
