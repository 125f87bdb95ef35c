/- The abstract machine: iterators over strings; appends, copies, conversions. -/
import Derived.Test.YtjnpggeibjbfmaaGreatDoorYaiA
import Derived.Laws.BytesString
import Derived.Laws.StructEq
import Derived.KernelRfl
namespace Go.Vai
set_option linter.unusedVariables false
set_option linter.unusedSimpArgs false
set_option linter.unusedSectionVars false
variable [Lane]
variable {P : Program} {base : Nat} {φ φ' φ'' : Emb} {h h' h'' : Heap} {w w' w'' : World}

theorem rangeV_ok (H : HR base φ h w) {t : TypeId} {x : AV} {xv : Value} (hx : VR φ w x xv) {r : ANext} (e : rangeV P t h x = some r) :
    ∃ v h' φ' w' u, r = .val v h' ∧ (Instr.range t xv).run P w = .ok u w' ∧ Step base φ h w φ' h' w' ∧ VR φ' w' v u := by
  unfold rangeV at e
  split at e
  · rename_i hu
    split at e
    case h_3 => cases e
    case h_2 =>
      rename_i ls
      simp only [Option.map_eq_some_iff, newObj, Option.bind_eq_some_iff, Option.some.injEq] at e
      obtain ⟨n, hn, r', ⟨os, ho, rfl⟩, rfl⟩ := e
      obtain ⟨s, k1, k2, rfl⟩ := hx.vec_str hn
      have st := new_step H (.viter ls 0) (.stringIter ⟨⟨s⟩⟩ 0) os ho 1 (.inr ⟨rfl, .viter ls s 0 k1⟩)
      refine ⟨_, _, _, _, .pointer (some ⟨w.heap.size, 0, none⟩), rfl, ?_, st, .ptr _ _ ⟨_, addE_same _ _ _ _, rfl, Nat.le_refl _, by simp⟩⟩
      unfold Instr.range
      simp only [Sem.run_bind, run_underlying hu, Result.andThen_ok, Sem.run_pure, run_newObj]
      rfl
    rename_i l
    simp only [Option.map_eq_some_iff, newObj, Option.bind_eq_some_iff, Option.some.injEq] at e
    obtain ⟨r', ⟨os, ho, rfl⟩, rfl⟩ := e
    cases hx
    have st := new_step H (.iter l 0) (.stringIter ⟨⟨l⟩⟩ 0) os ho 1 (.inr ⟨rfl, .iter l 0⟩)
    refine ⟨_, _, _, _, .pointer (some ⟨w.heap.size, 0, none⟩), rfl, ?_, st, .ptr _ _ ⟨_, addE_same _ _ _ _, rfl, Nat.le_refl _, by simp⟩⟩
    unfold Instr.range
    simp only [Sem.run_bind, run_underlying hu, Result.andThen_ok, Sem.run_pure, run_newObj]
    rfl
  · rename_i kt el hu
    split at e
    case h_2 => cases e
    rename_i b
    split at e
    case h_2 => cases e
    rename_i es hg
    split at e
    · rename_i hle
      simp only [Option.map_eq_some_iff, newObj, Option.bind_eq_some_iff, Option.some.injEq] at e
      obtain ⟨r', ⟨os, ho, rfl⟩, rfl⟩ := e
      cases hx with
      | map _ c hc =>
      obtain ⟨_, _, o, q3, q4⟩ := H.other _ _ _ _ hg rfl hc
      cases q4 with
      | map _ ms k1 k2 =>
      have hn : ms.size = es.length := by rw [k1.length, Array.length_toList]
      have st := new_step H (.miter b es.length false) (.mapIter (some c.cb) es.length #[] es.length) os ho 1 (.inr ⟨rfl, .miter b es.length c false hc hle⟩)
      refine ⟨_, _, _, _, .pointer (some ⟨w.heap.size, 0, none⟩), rfl, ?_, st, .ptr _ _ ⟨_, addE_same _ _ _ _, rfl, Nat.le_refl _, by simp⟩⟩
      unfold Instr.range
      simp only [Sem.run_bind, run_underlying hu, getObj, Sem.run, q3, Result.andThen_ok, Sem.run_pure, run_newObj, hn]
      rfl
    simp only [Option.map_eq_some_iff, newObj, Option.bind_eq_some_iff, Option.some.injEq] at e
    obtain ⟨r', ⟨os, ho, rfl⟩, rfl⟩ := e
    cases hx with
    | map _ c hc =>
    obtain ⟨_, _, o, q3, q4⟩ := H.other _ _ _ _ hg rfl hc
    cases q4 with
    | map _ ms k1 k2 =>
    have hn : ms.size = es.length := by rw [k1.length, Array.length_toList]
    have st := new_step H (.mapit b es.length none) (.mapIter (some c.cb) es.length #[] es.length) os ho 1 (.inr ⟨rfl, .mapit b es.length c #[] none hc (by simp) (by simp) (by simp)⟩)
    refine ⟨_, _, _, _, .pointer (some ⟨w.heap.size, 0, none⟩), rfl, ?_, st, .ptr _ _ ⟨_, addE_same _ _ _ _, rfl, Nat.le_refl _, by simp⟩⟩
    unfold Instr.range
    simp only [Sem.run_bind, run_underlying hu, getObj, Sem.run, q3, Result.andThen_ok, Sem.run_pure, run_newObj, hn]
    rfl
  · cases e
/-- an object that is no row, turned into another -/
theorem obj_wstep (H : HR base φ h w) {b g : Nat} {c : CL} {x x' : AObj} {o' : Obj} {os : Tr AObj} (hg : h.objs.get b = some x) (hx : isCells x = false) (hc : φ b g = some c) (ho : h.objs.set b x' = some os)
    (hx' : isCells x' = false) (hr : ObjR φ w x' o') : WStep base φ h w φ { h with objs := os } (setBlock w c.cb o') := by
  obtain ⟨q1, q0, oo, q2, q3⟩ := H.other _ _ _ _ hg hx hc
  have hcb := H.range _ _ _ hc
  have hat : (setBlock w c.cb o').heap[c.cb]? = some o' := by
    show (w.heap.setIfInBounds c.cb _)[c.cb]? = _
    rw [Array.getElem?_setIfInBounds_self, if_pos hcb]
  have hne : ∀ cb, cb ≠ c.cb → (setBlock w c.cb o').heap[cb]? = w.heap[cb]? := by
    intro cb hcb'
    show (w.heap.setIfInBounds c.cb _)[cb]? = _
    rw [Array.getElem?_setIfInBounds_ne (fun e => hcb' e.symm)]
  have hsize : (setBlock w c.cb o').heap.size = w.heap.size := by
    show (w.heap.setIfInBounds c.cb _).size = _
    rw [Array.size_setIfInBounds]
  have hrows : Rows w (setBlock w c.cb o') := by
    rintro cb k ⟨arr2, t2, fz2, p1, p2, p3⟩
    by_cases e : cb = c.cb
    · subst e; rw [q2] at p1; cases p1; exact q3.notCells.elim
    · exact ⟨_, _, _, (hne cb e).trans p1, p2, p3⟩
  have hb : b < h.next := H.below hc
  refine ⟨⟨?_, by rw [hsize]; exact H.low, fun b g c e => by rw [hsize]; exact H.range _ _ _ e, H.inj, ?_, ?_, ?_⟩, Ext.refl _, hrows, ⟨rfl, rfl, rfl, by rw [hsize]; exact Nat.le_refl _, ?_⟩, fun b g c e _ => ⟨g, c, e, rfl⟩, Nat.le_refl _, ?_⟩
  · intro b' hb'
    obtain ⟨r1, r2⟩ := H.fresh b' hb'
    have hb2 : h.next ≤ b' := hb'
    exact ⟨by show os.get b' = none; rw [Tr.get_set_ne ho (by omega)]; exact r1, r2⟩
  · intro b' ro gen cs e1 i lo v hi
    have e1' : os.get b' = some (.cells ro gen cs) := e1
    by_cases eb : b' = b
    · subst eb; rw [Tr.get_set_same ho] at e1'; cases e1'; cases hx'
    · rw [Tr.get_set_ne ho eb] at e1'; exact H.los _ _ _ _ e1' _ _ _ hi
  · intro b' ro gen cs g' c' e1 e2
    have e1' : os.get b' = some (.cells ro gen cs) := e1
    by_cases eb : b' = b
    · subst eb; rw [Tr.get_set_same ho] at e1'; cases e1'; cases hx'
    · rw [Tr.get_set_ne ho eb] at e1'
      obtain ⟨p1, p2, p3, arr, t, fz, pa, pf, pk⟩ := H.cells _ _ _ _ _ _ e1' e2
      have ecb : c'.cb ≠ c.cb := fun e => eb (H.inj _ _ _ _ _ _ e2 hc e).1
      refine ⟨p1, p2, p3, arr, t, fz, (hne _ ecb).trans pa, pf, ?_⟩
      intro i lo v hi hle hao hie
      obtain ⟨u, r1, r2, r3⟩ := pk i lo v hi hle hao hie
      exact ⟨u, r1, r2.mono (Ext.refl _) hrows, r3⟩
  · intro b' y g' c' e1 hy e2
    have e1' : os.get b' = some y := e1
    by_cases eb : b' = b
    · subst eb
      rw [Tr.get_set_same ho] at e1'
      cases e1'
      obtain ⟨r1, r0, r2⟩ := H.other _ _ _ _ hg hx e2
      have : c' = c := by
        rw [r0.2] at e2; rw [q0.2] at hc; rw [e2] at hc; exact Option.some.inj hc
      subst this
      exact ⟨r1, r0, o', hat, hr.mono (Ext.refl _) hrows⟩
    · rw [Tr.get_set_ne ho eb] at e1'
      obtain ⟨r1, r0, ob, r2, r3⟩ := H.other _ _ _ _ e1' hy e2
      exact ⟨r1, r0, ob, (hne _ fun e => eb (H.inj _ _ _ _ _ _ e2 hc e).1).trans r2, r3.mono (Ext.refl _) hrows⟩
  · intro cb hcb' hk
    exact hne cb fun e => hk b g c hc (by rw [hg]; exact wr_other hx) e.symm
  · intro b' _ e
    have e' : wr (os.get b') = true := e
    by_cases eb : b' = b
    · subst eb; rw [hg]; exact wr_other hx
    · rwa [Tr.get_set_ne ho eb] at e'
theorem obj_step (H : HR base φ h w) {b g : Nat} {c : CL} {x x' : AObj} {o' : Obj} {os : Tr AObj} (hg : h.objs.get b = some x) (hx : isCells x = false) (hni : ∀ m n cur, x ≠ .mapit m n cur) (hc : φ b g = some c) (ho : h.objs.set b x' = some os)
    (hx' : isCells x' = false) (hr : ObjR φ w x' o') : Step base φ h w φ { h with objs := os } (setBlock w c.cb o') :=
  ⟨obj_wstep H hg hx hc ho hx' hr, fun b' m n cur g' c' e1 e2 => by
    have eb : b' ≠ b := by rintro rfl; rw [hg] at e1; exact hni _ _ _ (Option.some.inj e1)
    refine ⟨?_, by show os.get b' = _; rw [Tr.get_set_ne ho eb]⟩
    show (w.heap.setIfInBounds c.cb _)[c'.cb]? = _
    rw [Array.getElem?_setIfInBounds_ne (fun e => eb (H.inj _ _ _ _ _ _ e2 hc e.symm).1)]⟩
/-- an iterator goes on -/
theorem iter_step (H : HR base φ h w) {b g : Nat} {c : CL} {s : List UInt8} {pos pos' : Nat} {os : Tr AObj} (hg : h.objs.get b = some (.iter s pos)) (hc : φ b g = some c) (ho : h.objs.set b (.iter s pos') = some os) :
    Step base φ h w φ { h with objs := os } (setBlock w c.cb (.stringIter ⟨⟨s⟩⟩ pos')) := obj_step H hg rfl (by simp) hc ho rfl (.iter s pos')

theorem nextA_ok (H : HR base φ h w) {x : AV} {xv : Value} {ty : TypeId} (hx : VR φ w x xv) {r : AV × Heap} (e : nextA h x = some r) :
    ∃ w' u, (Instr.next xv true ty).run P w = .ok u w' ∧ Step base φ h w φ r.2 w' ∧ VR φ w' r.1 u := by
  unfold nextA at e
  split at e
  case h_2 => cases e
  rename_i a
  split at e
  case h_3 => cases e
  case h_2 =>
    rename_i ss pos hg
    split at e
    case isFalse => cases e
    rename_i hi
    split at e
    case h_2 => cases e
    rename_i n hlen
    cases hx with
    | ptr _ ad hL =>
    obtain ⟨c, h1, h2, h3, rfl⟩ := hL
    obtain ⟨q1, q0, oo, q2, q3⟩ := H.other _ _ _ _ hg rfl h1
    cases q3 with
    | viter _ s _ hs =>
    have hn : s.length = n := by
      obtain ⟨s', e1, e2⟩ := lenA_vec hlen _ (List.mem_of_getElem? hs)
      cases e1; exact e2
    have off0 : c.co + (a.i - c.ao) = 0 := by omega
    rw [off0]
    split at e
    · rename_i hlt
      simp only [Option.bind_eq_some_iff, Option.some.injEq] at e
      obtain ⟨rs, hrs, rv, hrv, d, hd, os, ho, rfl⟩ := e
      obtain ⟨y, m1, m2⟩ := mapO_at hrs _ _ hs
      cases m2
      have hw : (decodeA s pos).2 = d := by
        obtain ⟨s', e1, e2⟩ := widthV_ok hd _ (List.mem_of_getElem? hs)
        cases e1; exact e2
      have st : Step base φ h w φ { h with objs := os } (setBlock w c.cb (.stringIter ⟨⟨s⟩⟩ (pos + d))) := obj_step H hg rfl (by simp) h1 ho rfl (.viter ss s (pos + d) hs)
      have hv : VR φ (setBlock w c.cb (.stringIter ⟨⟨s⟩⟩ (pos + d))) rv (.int .i32 (decodeA s pos).1) := collapse_ok hrv (by rw [mapO_length hrs]; exact m1) (.int _ _)
      refine ⟨_, _, ?_, st, .tup _ [.bool true, .int .i64 pos, .int .i32 (decodeA s pos).1] (.cons (.bool _) (.cons (.int _ _) (.cons hv .nil)))⟩
      have hlt' : pos < (⟨⟨s⟩⟩ : ByteArray).size := by show pos < s.length; omega
      subst hw
      simp only [Instr.next, getObj, setObj, Sem.run_bind, Sem.run, q2, Result.andThen, hlt', if_true]
      rfl
    · rename_i hlt
      cases e
      refine ⟨w, _, ?_, Step.refl H, .tup _ [.bool false] (.cons (.bool _) .nil)⟩
      have hlt' : ¬ pos < (⟨⟨s⟩⟩ : ByteArray).size := by show ¬ pos < s.length; omega
      simp only [Instr.next, getObj, Sem.run_bind, Sem.run, q2, Result.andThen, hlt', if_false]
      rfl
  rename_i s pos hg
  split at e
  case isFalse => cases e
  rename_i hi
  cases hx with
  | ptr _ ad hL =>
  obtain ⟨c, h1, h2, h3, rfl⟩ := hL
  obtain ⟨q1, q0, q2⟩ := H.iter _ _ _ _ _ hg h1
  have off0 : c.co + (a.i - c.ao) = 0 := by omega
  rw [off0]
  split at e
  · rename_i hlt
    simp only [Option.bind_eq_some_iff, Option.some.injEq] at e
    obtain ⟨os, ho, rfl⟩ := e
    refine ⟨_, _, ?_, iter_step H hg h1 ho, .tup _ [.bool true, .int .i64 pos, .int .i32 (decodeA s pos).1] (.cons (.bool _) (.cons (.int _ _) (.cons (.int _ _) .nil)))⟩
    have hlt' : pos < (⟨⟨s⟩⟩ : ByteArray).size := hlt
    simp only [Instr.next, getObj, setObj, Sem.run_bind, Sem.run, q2, Result.andThen, hlt', if_true]
    rfl
  · rename_i hlt
    cases e
    refine ⟨w, _, ?_, Step.refl H, .tup _ [.bool false] (.cons (.bool _) .nil)⟩
    have hlt' : ¬ pos < (⟨⟨s⟩⟩ : ByteArray).size := hlt
    simp only [Instr.next, getObj, Sem.run_bind, Sem.run, q2, Result.andThen, hlt', if_false]
    rfl

theorem lenOf_ok {x : AV} {xv : Value} (hx : VR φ w x xv) {n : Nat} (e : lenA x = some n) : (Builtin.lenOf xv).run P w = .ok n w := by
  have e0 := e
  unfold lenA at e
  split at e
  · cases e; cases hx; rfl
  · cases e; cases hx <;> rfl
  · obtain ⟨s, k1, k2, rfl⟩ := hx.vec_str e0
    subst k2; rfl
  · cases e
theorem bytes_all2 (l : List UInt8) : All2 (VR φ w) (bytesA l) (l.map fun b => Value.int .u8 b.toNat) := by
  unfold bytesA; exact All2.map (fun c => .int _ _) l
/-- the first cells of what is appended or copied -/
theorem srcCells_ok (H : HR base φ h w) {size n : Nat} {x : AV} {xv : Value} {vs : List AV} (hx : VR φ w x xv) (e : srcCells h size n x = some vs) (hcap : ∀ a len room sz, x = .slice (some a) len room sz → n ≤ len) (hnil : ∀ len room sz, x = .slice none len room sz → n = 0) :
    ∃ us : List Value, (Builtin.firstCells size n xv).run P w = .ok us.toArray w ∧ All2 (VR φ w) vs us := by
  unfold srcCells at e
  split at e
  · rename_i l
    split at e
    case isFalse => cases e
    cases e; cases hx
    refine ⟨(l.take n).map fun b => Value.int .u8 b.toNat, ?_, bytes_all2 _⟩
    simp only [Builtin.firstCells, Sem.run_pure, extract_mk]
    simp
  · cases e; cases hx
    exact ⟨[], rfl, .nil⟩
  · rename_i a len room sz
    split at e
    case isFalse => cases e
    rename_i hsz
    subst hsz
    cases hx with
    | slice _ ad _ _ _ cap hn hr hz he hh =>
    have hle := hcap _ _ _ _ rfl
    rcases hh with hh | ⟨hL, _⟩
    · have : n = 0 := by omega
      subst this
      simp only [Nat.zero_mul, loadN, Option.some.injEq] at e
      subst e
      exact ⟨[], by simp [Builtin.firstCells, loadCells, loadCellsFrom], .nil⟩
    · obtain ⟨us, r1, r2, _⟩ := loadN_cells (P := P) H hL (n * sz) 0 vs #[] e
      exact ⟨us, by simpa [Builtin.firstCells, loadCells] using r1, r2⟩
  · rename_i ls
    split at e
    case isFalse => cases e
    simp only [Option.bind_eq_some_iff] at e
    obtain ⟨m, hm, e⟩ := e
    obtain ⟨s, k1, k2, rfl⟩ := hx.vec_str hm
    refine ⟨(s.take n).map fun b => Value.int .u8 b.toNat, ?_, transB_ok e k1⟩
    simp only [Builtin.firstCells, Sem.run_pure, extract_mk]
    simp
  · cases e
theorem find_born {ms : Array MapEntry} (hb : ∀ (i : Nat) (m : MapEntry), ms[i]? = some m → m.born = i) {j : Nat} {m : MapEntry} (hj : ms[j]? = some m) : ms.find? (·.born == j) = some m := by
  rw [← Array.find?_toList]
  have key : ∀ (l : List MapEntry) (k : Nat), (∀ (i : Nat) (m : MapEntry), l[i]? = some m → m.born = k + i) → ∀ (i : Nat) (m : MapEntry), l[i]? = some m → l.find? (·.born == k + i) = some m := by
    intro l
    induction l with
    | nil => intro k _ i m q; simp at q
    | cons a l ih =>
      intro k hk i m q
      have h0 := hk 0 a (by simp)
      cases i with
      | zero =>
        simp only [List.getElem?_cons_zero, Option.some.injEq] at q
        subst q
        rw [List.find?_cons]
        simp [h0]
      | succ i =>
        rw [List.find?_cons]
        have : (a.born == k + (i + 1)) = false := by rw [h0]; simp
        rw [this]
        have := ih (k + 1) (fun i m q => by have := hk (i + 1) m (by simpa using q); omega) i m (by simpa using q)
        rw [show k + (i + 1) = k + 1 + i by omega]
        exact this
  have := key ms.toList 0 (fun i m q => by rw [Nat.zero_add]; exact hb i m (by simpa using q)) j m (by simpa using hj)
  rwa [Nat.zero_add] at this
theorem entryM_ok (H : HR base φ h w) {x v : AV} {xv : Value} (hx : VR φ w x xv) (e : entryM h x = some v) : ∃ u, (Instr.entry xv).run P w = .ok u w ∧ VR φ w v u := by
  unfold entryM at e
  split at e
  case h_2 => cases e
  rename_i a
  split at e
  case h_3 => cases e
  case h_2 =>
    rename_i m n hg
    split at e
    case isFalse => cases e
    rename_i hi
    split at e
    case h_2 => cases e
    rename_i es hm
    split at e
    case isFalse => cases e
    rename_i hn
    split at e
    case h_2 => cases e
    rename_i en
    cases e
    cases hx with
    | ptr _ ad hL =>
    obtain ⟨c, h1, h2, h3, rfl⟩ := hL
    obtain ⟨_, q0, o, q2, q3⟩ := H.other _ _ _ _ hg rfl h1
    have off0 : c.co + (a.i - c.ao) = 0 := by omega
    rw [off0]
    cases q3 with
    | miter _ _ cm _ hcm hn1 =>
    obtain ⟨_, _, om, r2, r3⟩ := H.other _ _ _ _ hm rfl hcm
    cases r3 with
    | map _ ms k1 k2 =>
    obtain ⟨x, hx1, hx2⟩ := k1.get 0 _ rfl
    have hx1' : ms[0]? = some x := by simpa using hx1
    have hf := find_born k2 hx1'
    have hsz : ms.size = n := by rw [← hn, k1.length, Array.length_toList]
    refine ⟨.tuple #[x.key, x.val], ?_, .tup _ _ (.cons hx2.key (.cons hx2.val .nil))⟩
    simp only [if_true] at q2
    simp only [Instr.entry, getObj, Sem.run_bind, Sem.run, q2, r2, Result.andThen_ok, hsz, bne_self_eq_false, Bool.false_eq_true, if_false, Sem.run_pure]
    have hb : (#[0] : Array Nat).back? = some 0 := rfl
    simp only [hb, Sem.run_bind, Sem.run, r2, Result.andThen_ok, hsz, bne_self_eq_false, Bool.false_eq_true, if_false, hf, Sem.run_pure]
  rename_i m n j hg
  split at e
  case isFalse => cases e
  rename_i hi
  split at e
  case h_2 => cases e
  rename_i es hm
  split at e
  case isFalse => cases e
  rename_i hn
  simp only [Option.map_eq_some_iff] at e
  obtain ⟨en, hen, rfl⟩ := e
  cases hx with
  | ptr _ ad hL =>
  obtain ⟨c, h1, h2, h3, rfl⟩ := hL
  obtain ⟨_, q0, o, q2, q3⟩ := H.other _ _ _ _ hg rfl h1
  have off0 : c.co + (a.i - c.ao) = 0 := by omega
  rw [off0]
  cases q3 with
  | mapit _ _ cm seen _ hcm hs hd hcur =>
  obtain ⟨_, _, om, r2, r3⟩ := H.other _ _ _ _ hm rfl hcm
  cases r3 with
  | map _ ms k1 k2 =>
  obtain ⟨x, hx1, hx2⟩ := k1.get _ _ hen
  have hx1' : ms[j]? = some x := by simpa using hx1
  have hf := find_born k2 hx1'
  have hsz : ms.size = n := by rw [← hn, k1.length, Array.length_toList]
  refine ⟨.tuple #[x.key, x.val], ?_, .tup _ _ (.cons hx2.key (.cons hx2.val .nil))⟩
  simp only [Instr.entry, getObj, Sem.run_bind, Sem.run, q2, hcur j rfl, r2, Result.andThen_ok, hsz, bne_self_eq_false, Bool.false_eq_true, if_false, hf, Sem.run_pure]
/-- the next entry of a map that has one at most -/
theorem nextM_ok (H : HR base φ h w) {x : AV} {xv : Value} {ty : TypeId} (hx : VR φ w x xv) {r : AV × Heap} (e : nextM h x = some r) :
    ∃ w' u, (Instr.next xv false ty).run P w = .ok u w' ∧ Step base φ h w φ r.2 w' ∧ VR φ w' r.1 u := by
  unfold nextM at e
  split at e
  case h_2 => cases e
  rename_i a
  split at e
  case h_2 => cases e
  rename_i m n seen hg
  split at e
  case isFalse => cases e
  rename_i hi
  split at e
  case h_2 => cases e
  rename_i es hm
  split at e
  case isFalse => cases e
  rename_i hn
  cases hx with
  | ptr _ ad hL =>
  obtain ⟨c, h1, h2, h3, rfl⟩ := hL
  obtain ⟨_, q0, o, q2, q3⟩ := H.other _ _ _ _ hg rfl h1
  have off0 : c.co + (a.i - c.ao) = 0 := by omega
  rw [off0]
  cases q3 with
  | miter _ _ cm _ hcm hn1 =>
  obtain ⟨_, _, om, r2, r3⟩ := H.other _ _ _ _ hm rfl hcm
  cases r3 with
  | map _ ms k1 k2 =>
  have hsz : ms.size = n := by rw [← hn, k1.length, Array.length_toList]
  split at e
  · -- no entry
    cases e
    have hms : ms = #[] := by
      have : ms.size = 0 := by rw [hsz, ← hn]; rfl
      exact Array.eq_empty_of_size_eq_zero this
    subst hms
    have hn0 : n = 0 := by rw [← hn]; rfl
    subst hn0
    refine ⟨w, .tuple #[.bool false], ?_, Step.refl H, .tup _ _ (.cons (.bool _) .nil)⟩
    cases seen <;> simp [Instr.next, getObj, Sem.run_bind, Sem.run, q2, r2, Result.andThen, choose, Question.forced]
  · -- one
    rename_i en
    have hn1' : n = 1 := by rw [← hn]; rfl
    subst hn1'
    obtain ⟨x0, hx1, hx2⟩ := k1.get 0 _ rfl
    have hx1' : ms[0]? = some x0 := by simpa using hx1
    have hms : ms = #[x0] := by
      apply Array.ext
      · simpa using hsz
      · intro i h1 h2
        have : i = 0 := by omega
        subst this
        have := (Array.getElem?_eq_some_iff.1 hx1').2
        simpa using this
    have hb0 : x0.born = 0 := k2 0 x0 hx1'
    subst hms
    cases seen with
    | true =>
      simp only [if_true, Option.some.injEq] at e
      subst e
      refine ⟨w, .tuple #[.bool false], ?_, Step.refl H, .tup _ _ (.cons (.bool _) .nil)⟩
      simp [Instr.next, getObj, Sem.run_bind, Sem.run, q2, r2, Result.andThen, choose, Question.forced, hb0]
    | false =>
      simp only [Bool.false_eq_true, if_false, Option.map_eq_some_iff] at e
      obtain ⟨os, ho, rfl⟩ := e
      have st : Step base φ h w φ { h with objs := os } (setBlock w c.cb (.mapIter (some cm.cb) 1 #[0] 1)) := obj_step H hg rfl (by simp) h1 ho rfl (.miter m 1 cm true hcm (Nat.le_refl _))
      refine ⟨_, .tuple #[.bool true, x0.key, x0.val], ?_, st, .tup _ _ (.cons (.bool _) (.cons (hx2.key.mono st.ext st.rows) (.cons (hx2.val.mono st.ext st.rows) .nil)))⟩
      simp [Instr.next, getObj, setObj, Sem.run_bind, Sem.run, q2, r2, Result.andThen, choose, Question.forced, hb0]
      rfl
  · cases e
end Go.Vai
/- The abstract machine: appends. -/
namespace Go.Vai
set_option linter.unusedVariables false
set_option linter.unusedSimpArgs false
set_option linter.unusedSectionVars false
variable [Lane]
variable {P : Program} {base : Nat} {φ φ' φ'' : Emb} {h h' h'' : Heap} {w w' w'' : World}

theorem setCell_block {cb o : Nat} {arr : Array Value} {t : TypeId} {fz : Nat × Nat} (ha : w.heap[cb]? = some (.cells arr t fz)) (u : Value) :
    w.setCell ⟨cb, o, none⟩ u = setBlock w cb (.cells (arr.setIfInBounds o u) t fz) := by
  unfold World.setCell setBlock
  congr 1
  apply Array.ext_getElem?
  intro i
  rw [Array.getElem?_modify]
  by_cases e : cb = i
  · subst e
    have hlt : cb < w.heap.size := by
      rcases Nat.lt_or_ge cb w.heap.size with q | q
      · exact q
      · rw [Array.getElem?_eq_none q] at ha; cases ha
    rw [if_pos rfl, ha, Array.getElem?_setIfInBounds_self, if_pos hlt]; rfl
  · rw [if_neg e, Array.getElem?_setIfInBounds_ne e]
theorem setBlock_twice (w : World) (cb : Nat) (x y : Obj) : setBlock (setBlock w cb x) cb y = setBlock w cb y := by
  unfold setBlock
  congr 1
  apply Array.ext_getElem?
  intro i
  by_cases e : cb = i
  · subst e
    by_cases hlt : cb < w.heap.size
    · rw [Array.getElem?_setIfInBounds_self, Array.getElem?_setIfInBounds_self]
      simp [hlt]
    · rw [Array.getElem?_setIfInBounds_self, Array.getElem?_setIfInBounds_self]
      simp [hlt]
  · rw [Array.getElem?_setIfInBounds_ne e, Array.getElem?_setIfInBounds_ne e, Array.getElem?_setIfInBounds_ne e]
theorem setBlock_at {cb : Nat} {x y : Obj} (hx : w.heap[cb]? = some x) : (setBlock w cb y).heap[cb]? = some y := by
  have hlt : cb < w.heap.size := by
    rcases Nat.lt_or_ge cb w.heap.size with q | q
    · exact q
    · rw [Array.getElem?_eq_none q] at hx; cases hx
  show (w.heap.setIfInBounds cb y)[cb]? = _
  rw [Array.getElem?_setIfInBounds_self, if_pos hlt]
/-- cells stored into a row, whatever the machine's memory says of it -/
theorem storeCells_raw {cb off : Nat} {t : TypeId} {fz : Nat × Nat} : ∀ (us : List Value) (j : Nat) (w : World) (arr : Array Value), w.heap[cb]? = some (.cells arr t fz) →
    (∀ o, o < arr.size → ¬ (fz.1 ≤ o ∧ o < fz.2)) → off + j + us.length ≤ arr.size → (∀ u ∈ us, (∀ cs, u ≠ .agg cs) ∧ (∀ cs, u ≠ .tuple cs)) →
    ∃ arr' : Array Value, (storeCells ⟨cb, off, none⟩ us j).run P w = .ok () (setBlock w cb (.cells arr' t fz)) ∧ arr'.size = arr.size ∧
      (∀ k, (k < off + j ∨ off + j + us.length ≤ k) → arr'[k]? = arr[k]?) ∧ (∀ i u, us[i]? = some u → arr'[off + j + i]? = some u)
  | [], j, w, arr, ha, hf, hz, ho => by
    refine ⟨arr, ?_, rfl, fun _ _ => rfl, by simp⟩
    have : setBlock w cb (.cells arr t fz) = w := by
      unfold setBlock
      have : w.heap.setIfInBounds cb (.cells arr t fz) = w.heap := by
        apply Array.ext_getElem?
        intro i
        by_cases e : cb = i
        · subst e
          rw [Array.getElem?_setIfInBounds_self, ha]
          split
          · rfl
          · rename_i q; rw [Array.getElem?_eq_none (by omega)] at ha; cases ha
        · rw [Array.getElem?_setIfInBounds_ne e]
      rw [this]
    rw [this]; simp [storeCells]
  | u :: us, j, w, arr, ha, hf, hz, ho => by
    simp only [List.length_cons] at hz
    have hlt : off + j < arr.size := by omega
    obtain ⟨o1, o2⟩ := ho u (by simp)
    have hcell : w.cell? ⟨cb, off + j, none⟩ = some arr[off + j] := by
      simp only [World.cell?, ha, Option.isSome_none, Bool.false_eq_true, if_false]
      rw [Array.getElem?_eq_getElem hlt]
    have hfr : w.frozen? ⟨cb, off + j, none⟩ = false := by
      simp only [World.frozen?, ha]
      rw [Bool.eq_false_iff]
      intro q
      simp only [Bool.and_eq_true, decide_eq_true_eq] at q
      exact hf _ hlt q
    have hrun : (store ⟨cb, off + j, none⟩ u).run P w = .ok () (setBlock w cb (.cells (arr.setIfInBounds (off + j) u) t fz)) := by
      rw [← setCell_block ha]
      unfold store
      cases u <;> simp_all [Sem.run]
    obtain ⟨arr', r1, r2, r3, r4⟩ := storeCells_raw (off := off) us (j + 1) (setBlock w cb (.cells (arr.setIfInBounds (off + j) u) t fz)) _ (setBlock_at ha) (by simpa using hf) (by simp; omega) (fun u hu => ho u (by simp [hu]))
    refine ⟨arr', ?_, by rw [r2]; simp, ?_, ?_⟩
    · simp only [storeCells, Sem.run_bind, add_plain, hrun, Result.andThen]
      rw [r1, setBlock_twice]
    · intro k hk
      simp only [List.length_cons] at hk
      have hne : off + j ≠ k := by omega
      rw [r3 k (by omega), Array.getElem?_setIfInBounds_ne hne]
    · intro i v hv
      cases i with
      | zero =>
        simp at hv; subst hv
        rw [r3 _ (.inl (by omega)), Nat.add_zero, Array.getElem?_setIfInBounds_self, if_pos hlt]
      | succ i =>
        simp at hv
        have := r4 i v hv
        rw [← this]; congr 1; omega
/-- cells read from a row, whatever the machine's memory says of it -/
theorem loadCells_raw {cb off : Nat} {t : TypeId} {fz : Nat × Nat} {arr : Array Value} (ha : w.heap[cb]? = some (.cells arr t fz)) : ∀ (n j : Nat) (acc : Array Value), off + j + n ≤ arr.size →
    ∃ us : List Value, (loadCellsFrom ⟨cb, off, none⟩ j n acc).run P w = .ok (acc ++ us.toArray) w ∧ us.length = n ∧ ∀ k, k < n → us[k]? = arr[off + j + k]?
  | 0, j, acc, _ => ⟨[], by simp [loadCellsFrom], rfl, fun k hk => absurd hk (by omega)⟩
  | n + 1, j, acc, hz => by
    have hlt : off + j < arr.size := by omega
    obtain ⟨us, h1, h2, h3⟩ := loadCells_raw (off := off) ha n (j + 1) (acc.push arr[off + j]) (by omega)
    refine ⟨arr[off + j] :: us, ?_, by simp [h2], ?_⟩
    · have hcell : w.cell? ⟨cb, off + j, none⟩ = some arr[off + j] := by
        simp only [World.cell?, ha, Option.isSome_none, Bool.false_eq_true, if_false]
        rw [Array.getElem?_eq_getElem hlt]
      simp only [loadCellsFrom, Sem.run_bind, load, Sem.run, add_plain, hcell, Result.andThen]
      rw [h1]; simp
    · intro k hk
      cases k with
      | zero => simp
      | succ k =>
        rw [List.getElem?_cons_succ, h3 k (by omega)]
        congr 1; omega
theorem drew_rows (w : World) (n : Nat) : Rows w { w with drawn := n } := fun _ _ h => h
theorem drew_step (H : HR base φ h w) (n : Nat) : Step base φ h w φ h { w with drawn := n } := by
  have mono : ∀ {x : AV} {v : Value}, VR φ w x v → VR φ { w with drawn := n } x v := fun k => k.mono (Ext.refl _) (drew_rows w n)
  refine ⟨⟨⟨H.fresh, H.low, H.range, H.inj, H.los, ?_, fun b x g c e1 e2 e3 => by obtain ⟨q1, q2, o, q3, q4⟩ := H.other b x g c e1 e2 e3; exact ⟨q1, q2, o, q3, q4.mono (Ext.refl _) (drew_rows w n)⟩⟩, Ext.refl _, drew_rows w n, ⟨rfl, rfl, rfl, Nat.le_refl _, fun _ _ _ => rfl⟩, fun b g c e _ => ⟨g, c, e, rfl⟩, Nat.le_refl _, fun _ _ q => q⟩, fun _ _ _ _ _ _ _ _ => ⟨rfl, rfl⟩⟩
  intro b ro gen cs g c hg hc
  obtain ⟨q1, q2, q3, arr, t, fz, q4, q5, q6⟩ := H.cells b ro gen cs g c hg hc
  refine ⟨q1, q2, q3, arr, t, fz, q4, q5, ?_⟩
  intro i lo v e1 e2 e3 e4
  obtain ⟨u, r1, r2, r3⟩ := q6 i lo v e1 e2 e3 e4
  exact ⟨u, r1, mono r2, r3⟩
theorem growBy_le (newLen : Nat) : ∀ (r c : Nat), c ≤ 2 * newLen + 192 → Builtin.growBy newLen r c ≤ 2 * newLen + 192
  | 0, c, h => h
  | r + 1, c, h => by
    unfold Builtin.growBy
    split
    · exact h
    · exact growBy_le newLen r _ (by omega)
theorem nextcap_le (newLen oldCap : Nat) (h : oldCap ≤ newLen) : Builtin.nextslicecap newLen oldCap ≤ 2 * newLen + 192 := by
  unfold Builtin.nextslicecap
  split
  · omega
  · split
    · omega
    · exact growBy_le _ _ _ (by omega)
theorem first_none {size : Nat} {x : AV} {xv : Value} (hx : VR φ w x xv) (e : lenA x = some 0) : (Builtin.firstCells size 0 xv).run P w = .ok #[] w := by
  have e0 := e
  unfold lenA at e
  split at e
  · cases hx; simp [Builtin.firstCells]
  · cases e; cases hx <;> simp [Builtin.firstCells, loadCells, loadCellsFrom]
  · obtain ⟨s, _, _, rfl⟩ := hx.vec_str e0
    simp [Builtin.firstCells]
  · cases e
theorem run_typeInfo {t : TypeId} {i : TypeInfo} (h : P.info? t = some i) (w : World) : (typeInfo t).run P w = .ok i w := by simp [typeInfo, h]
theorem run_zeroT' {t : TypeId} {x : AV} (e : zeroT P t = some x) : ∃ z, (∀ w, (zeroValue t).run P w = .ok z w) ∧ ∀ φ w, VR φ w x z := by
  unfold zeroT at e
  simp only [Option.bind_eq_some_iff] at e
  obtain ⟨i, h1, z, h2, h3⟩ := e
  exact ⟨z, fun w => by simp [zeroValue, typeInfo, h1, h2], fun φ w => ofV_VR h3⟩
/-- the reads and questions ahead of an append -/
theorem append_start {ts : Array TypeId} {t u ty el : TypeId} (h0 : ts[0]? = some t) (h1 : ts[1]? = some u) (hm : moreT P u = true) (hu : P.underlying t = some (.slice el))
    {b : Option Addr} {sl cap size n : Nat} {xv : Value} (hs : sizeT P el = some size) (hn : (Builtin.lenOf xv).run P w = .ok n w) :
    (sl + n ≤ cap → (Builtin.append_ ts ty #[.slice b sl cap, xv]).run P w = ((Builtin.firstCells size n xv) >>= fun new => (match b with | some a => storeCells (a.add (sl * size)) new.toList | none => pure ()) >>= fun _ => pure (.slice b (sl + n) cap)).run P w) ∧
    (¬ sl + n ≤ cap → sl + n ≤ 16777216 → ((P.info? el).all fun i => decide (i.bytes ≤ 65536)) = true → ∀ z : AV, zeroT P el = some z → (cellsA z).length = size → ∃ (k : Nat) (rest : List Value), sl + n ≤ k ∧ rest.length = (k - (sl + n)) * size ∧ 
      (Builtin.append_ ts ty #[.slice b sl cap, xv]).run P w = ((Builtin.firstCells size sl (.slice b sl cap)) >>= fun old => (Builtin.firstCells size n xv) >>= fun new => Go.newRow el (old ++ new ++ rest.toArray) >>= fun a => pure (.slice (some a) (sl + n) k)).run P { w with drawn := w.drawn + 1 }) := by
  have hxt : ∃ ut, P.underlying u = some ut ∧ (∀ k, ut ≠ .int k) := by
    unfold moreT at hm
    split at hm
    · cases hm
    · rename_i ut hne e; exact ⟨ut, e, fun k q => hne k q⟩
    · cases hm
  obtain ⟨ut, hut, hint⟩ := hxt
  unfold Builtin.append_
  simp only [h0, h1, List.getElem?_toArray, List.getElem?_cons_zero, List.getElem?_cons_succ]
  simp only [Sem.run_bind, run_underlying hu, Result.andThen_ok, run_sizeT hs, run_underlying hut, Sem.run_pure, Bool.false_eq_true, if_false, hn, Bool.not_false, if_true, false_or]
  refine ⟨fun hle => ?_, fun hnle hsm hb z hz hzl => ?_⟩
  · simp only [hle, if_true]
    cases b <;> simp only [Sem.run_bind, Sem.run_pure, Result.andThen_ok]
  · have hs' := hs
    unfold sizeT at hs'
    simp only [Option.map_eq_some_iff] at hs'
    obtain ⟨info, hi, _⟩ := hs'
    rw [hi] at hb
    simp only [Option.all_some, decide_eq_true_eq] at hb
    have big : ¬ (((sl + n : Nat) : Int) > IntKind.i64.max ∧ info.bytes = 0) := by
      have : IntKind.i64.max = 9223372036854775807 := by decide
      rw [this]; omega
    have cap' : ¬ (Builtin.nextslicecap (sl + n) cap * info.bytes > 2 ^ 48) := by
      have q := nextcap_le (sl + n) cap (by omega)
      have : Builtin.nextslicecap (sl + n) cap * info.bytes ≤ (2 * 16777216 + 192) * 65536 := Nat.mul_le_mul (by omega) hb
      omega
    obtain ⟨zv, z1, z2⟩ := run_zeroT' hz
    have hzs : zv.cells.size = size := by rw [← hzl, (cells_VR (z2 (fun _ _ => none) w)).length, Array.length_toList]
    have hcut : ∃ k, sl + n ≤ k ∧ (Question.appendCap (sl + n) cap el).cut (w.tape w.drawn (Question.appendCap (sl + n) cap el)) = k := ⟨_, by simp only [Question.cut]; omega, rfl⟩
    obtain ⟨k, hk, hcut⟩ := hcut
    refine ⟨k, (Builtin.zeroCells zv.cells (k - (sl + n))).toList, hk, ?_, ?_⟩
    · simp [Builtin.zeroCells, hzs]
    · simp only [hnle, if_false, Sem.run_bind, run_typeInfo hi, Result.andThen_ok, big, cap', run_choose, Question.forced, Bool.false_eq_true, hcut, run_askRoom, z1, Sem.run_pure, Array.toArray_toList]
theorem loadN_length {a : Loc} : ∀ (n j : Nat) (vs : List AV), loadN h a j n = some vs → vs.length = n
  | 0, j, vs, e => by simp only [loadN, Option.some.injEq] at e; subst e; rfl
  | n + 1, j, vs, e => by
    simp only [loadN, Option.bind_eq_some_iff, Option.some.injEq] at e
    obtain ⟨v, _, r, hr, rfl⟩ := e
    simp [loadN_length n (j + 1) r hr]
theorem srcCells_length {size n : Nat} {x : AV} {vs : List AV} (hn : lenA x = some n) (e : srcCells h size n x = some vs) (h0 : ∀ len room sz, x = .slice none len room sz → n = 0) : vs.length = n * size := by
  unfold srcCells at e
  split at e
  · split at e
    case isFalse => cases e
    rename_i l hs
    cases e; subst hs
    simp only [lenA, Option.some.injEq] at hn
    simp [bytesA, hn]
  · cases e
    rw [h0 _ _ _ rfl]; simp
  · split at e
    case isFalse => cases e
    exact loadN_length _ _ _ e
  · split at e
    case isFalse => cases e
    rename_i hs
    subst hs
    simp only [Option.bind_eq_some_iff] at e
    obtain ⟨_, _, e⟩ := e
    rw [transB_length e, Nat.mul_one]
  · cases e
theorem run_newRow (t : TypeId) (cs : Array Value) (w : World) : (Go.newRow t cs).run P w = .ok ⟨w.heap.size, 0, none⟩ (w.alloc (.cells cs t)) := rfl
theorem All2.mem {α β : Type} {R : α → β → Prop} {l : List α} {m : List β} (h : All2 R l m) : ∀ b ∈ m, ∃ a ∈ l, R a b := by
  induction h with
  | nil => intro b hb; cases hb
  | cons h _ ih =>
    intro b hb
    rcases List.mem_cons.mp hb with rfl | hb
    · exact ⟨_, List.mem_cons_self, h⟩
    · obtain ⟨a, h1, h2⟩ := ih b hb; exact ⟨a, List.mem_cons_of_mem _ h1, h2⟩
theorem append_ok (H : HR base φ h w) {ts : Array TypeId} {t u ty : TypeId} (h0 : ts[0]? = some t) (h1 : ts[1]? = some u) (hm : moreT P u = true) {s x : AV} {sv xv : Value} (hs : VR φ w s sv) (hx : VR φ w x xv)
    {r : AV × Heap} (e : appendA P h t s x = some r) :
    ∃ φ' w' v, (Builtin.append_ ts ty #[sv, xv]).run P w = .ok v w' ∧ Step base φ h w φ' r.2 w' ∧ VR φ' w' r.1 v := by
  unfold appendA at e
  split at e
  case h_2 => cases e
  rename_i el hu
  split at e
  case h_2 => cases e
  rename_i a len room sz
  simp only [Option.bind_eq_some_iff] at e
  obtain ⟨size, hsz, n, hn, e⟩ := e
  have hlen := lenOf_ok (P := P) (w := w) hx hn
  split at e
  · rename_i hn0
    subst hn0
    cases e
    cases hs with
    | nilSlice =>
      obtain ⟨q, _⟩ := append_start (ty := ty) (b := none) (sl := 0) (cap := 0) h0 h1 hm hu hsz hlen
      refine ⟨φ, w, _, ?_, Step.refl H, .nilSlice⟩
      rw [q (by omega), Sem.run_bind, first_none hx hn]; rfl
    | slice a ad _ _ _ cap g1 g2 g3 g4 g5 =>
      obtain ⟨q, _⟩ := append_start (ty := ty) (b := some ad) (sl := len) (cap := cap) h0 h1 hm hu hsz hlen
      refine ⟨φ, w, _, ?_, Step.refl H, .slice a ad _ _ _ cap g1 g2 g3 g4 g5⟩
      rw [q (by omega), Sem.run_bind, first_none hx hn]; simp [storeCells]
  · rename_i hn0
    split at e
    case isFalse => cases e
    rename_i hc
    obtain ⟨c1, c2, c3, c4⟩ := hc
    simp only [Option.bind_eq_some_iff] at e
    obtain ⟨vs, hvs, e⟩ := e
    obtain ⟨z, hz, hzl⟩ : ∃ z, zeroT P el = some z ∧ (cellsA z).length = size := by
      cases q : zeroT P el with
      | none => rw [q] at c4; simp at c4
      | some z => rw [q] at c4; exact ⟨z, rfl, by simpa using c4⟩
    have hcap : ∀ a len room sz, x = .slice (some a) len room sz → n ≤ len := by
      rintro a len room sz rfl
      simp only [lenA, Option.some.injEq] at hn; omega
    have hnil : ∀ len room sz, x = .slice none len room sz → n = 0 := by
      rintro len room sz rfl
      cases hx
      simp only [lenA, Option.some.injEq] at hn; omega
    cases hs with
    | nilSlice =>
      simp only [Option.bind_eq_some_iff, Option.some.injEq] at e
      obtain ⟨r', hr', rfl⟩ := e
      obtain ⟨_, q⟩ := append_start (ty := ty) (b := none) (sl := 0) (cap := 0) h0 h1 hm hu hsz hlen
      obtain ⟨k, rest, k1, k2, k3⟩ := q (by omega) c1 c3 z hz hzl
      have H1 := drew_step H (w.drawn + 1)
      obtain ⟨us, u1, u2⟩ := srcCells_ok (P := P) H1.hr (hx.mono H1.ext H1.rows) hvs hcap hnil
      obtain ⟨n1, n2, n3⟩ := newRow_step H1.hr (us' := rest) el u2 hr' (fzG0 _)
      have lens := u2.length
      have hvl := srcCells_length hn hvs hnil
      refine ⟨_, _, .slice (some ⟨w.heap.size, 0, none⟩) (0 + n) k, ?_, Step.trans H H1 n2, ?_⟩
      · rw [k3]
        have f0 : (Builtin.firstCells size 0 (.slice none 0 0)).run P { w with drawn := w.drawn + 1 } = .ok #[] { w with drawn := w.drawn + 1 } := rfl
        simp only [Sem.run_bind, f0, u1, Sem.run_pure, Result.andThen_ok, run_newRow, List.append_toArray, Array.empty_append]
      · simp only [Nat.zero_add]
        refine .slice _ ⟨w.heap.size, 0, none⟩ _ _ _ k (Nat.le_refl _) (by omega) c2 (by simp) (.inr ⟨?_, ?_⟩)
        · rw [n1]; exact ⟨_, addE_same _ _ _ _, by rw [hvl], Nat.le_refl _, by simp⟩
        · refine ⟨_, el, (0, 0), alloc_new _ _, ?_, fz00 _⟩
          simp only [Nat.zero_add] at k2 ⊢
          simp only [List.size_toArray, List.length_append]
          rw [← lens, hvl, k2, ← Nat.add_mul]
          exact Nat.mul_le_mul_right _ (by omega)
    | slice a ad _ _ _ cap g1 g2 g3 g4 g5 =>
      simp only at e
      split at e
      case isFalse => cases e
      rename_i hsize
      subst hsize
      obtain ⟨q, q'⟩ := append_start (ty := ty) (b := some ad) (sl := len) (cap := cap) h0 h1 hm hu hsz hlen
      have hvl := srcCells_length hn hvs hnil
      split at e
      · rename_i hroom
        simp only [Option.bind_eq_some_iff, Option.some.injEq] at e
        obtain ⟨h', hst, rfl⟩ := e
        obtain ⟨us, u1, u2⟩ := srcCells_ok (P := P) H hx hvs hcap hnil
        rcases g5 with g5 | ⟨g5, g6⟩
        · omega
        obtain ⟨w', s1, s2, _⟩ := storeN_cells (P := P) H (g5.shift (len * size)) u2 0 hst
        refine ⟨φ, w', _, ?_, s2, .slice a ad _ _ _ cap hroom g2 g3 g4 (.inr ⟨g5, s2.rows _ _ g6⟩)⟩
        rw [q (by omega)]
        simp only [Sem.run_bind, u1, Result.andThen_ok, s1, Sem.run_pure]
      · rename_i hroom
        have hbound : a.i + len * size ≤ a.e := by
          have := Nat.mul_le_mul_right size g1
          omega
        by_cases hle : len + n ≤ cap
        · rcases g5 with g5 | ⟨g5, arr, t', fz, g6, g7, g8⟩
          · omega
          obtain ⟨us, u1, u2⟩ := srcCells_ok (P := P) H hx hvs hcap hnil
          obtain ⟨gen, cs, d1, d2, d3, d4, d5, d6, _⟩ := grow_step H e g3 hvl hbound
          obtain ⟨c, l1, l2, l3, rfl⟩ := g5
          have lens := u2.length
          have hmm : len * size + n * size ≤ cap * size := by rw [← Nat.add_mul]; exact Nat.mul_le_mul_right _ hle
          have hoc : ∀ u ∈ us, (∀ cs, u ≠ .agg cs) ∧ (∀ cs, u ≠ .tuple cs) := by
            intro u hu
            obtain ⟨v, hv1, hv2⟩ := All2.mem u2 u hu
            exact oneCell_value hv2 (d4 v hv1)
          simp only at g6 g7
          obtain ⟨arr', s1, s2, s3, s4⟩ := storeCells_raw (P := P) (cb := c.cb) (off := c.co + (a.i - c.ao) + len * size) us 0 w arr g6 g8.2 (by omega) hoc
          have st := d6 c arr t' fz arr' us l1 l2 l3 g6 s2 u2 (fun k hk => s3 k (by rw [Nat.add_mul] at hk; omega)) (fun j u hj => by have := s4 j u hj; simpa using this) (by rw [Nat.add_mul]; omega)
          refine ⟨_, _, .slice (some ⟨c.cb, c.co + (a.i - c.ao), none⟩) (len + n) cap, ?_, st, ?_⟩
          · rw [q hle]
            simp only [Sem.run_bind, u1, Result.andThen_ok, add_plain, s1, Sem.run_pure]
          · rw [d3]
            exact .slice _ _ _ _ _ cap (Nat.le_refl _) hle g3 (Nat.le_refl _) (.inr ⟨⟨_, addE_same _ _ _ _, rfl, l3, rfl⟩, st.rows _ _ ⟨arr, t', fz, g6, g7, g8⟩⟩)
        · obtain ⟨k, rest, k1, k2, k3⟩ := q' hle c1 c3 z hz hzl
          have H1 := drew_step H (w.drawn + 1)
          obtain ⟨us, u1, u2⟩ := srcCells_ok (P := P) H1.hr (hx.mono H1.ext H1.rows) hvs hcap hnil
          obtain ⟨gen, cs, d1, d2, d3, d4, d5, _, d6⟩ := grow_step H1.hr e g3 hvl hbound
          have lens := u2.length
          obtain ⟨olds, o1, o2, o3⟩ : ∃ olds : List Value, (Builtin.firstCells size len (.slice (some ad) len cap)).run P { w with drawn := w.drawn + 1 } = .ok olds.toArray { w with drawn := w.drawn + 1 } ∧ olds.length = len * size ∧
              (∀ j lo v, j < len * size → cs.get (a.i + j) = some (lo, v) → ∃ u, olds[j]? = some u ∧ VR φ { w with drawn := w.drawn + 1 } v u ∧ oneCell v = true) := by
            rcases g5 with g5 | ⟨g5, arr, t', fz, g6, g7, g8⟩
            · have : len = 0 := by omega
              subst this
              exact ⟨[], by simp [Builtin.firstCells, loadCells, loadCellsFrom], by simp, fun j lo v hj => absurd hj (by simp)⟩
            · obtain ⟨c, l1, l2, l3, rfl⟩ := g5
              simp only at g6 g7
              have hmm : len * size ≤ cap * size := Nat.mul_le_mul_right _ (by omega)
              obtain ⟨olds, o1, o2, o3⟩ := loadCells_raw (P := P) (w := { w with drawn := w.drawn + 1 }) (off := c.co + (a.i - c.ao)) g6 (len * size) 0 #[] (by omega)
              refine ⟨olds, by simpa [Builtin.firstCells, loadCells] using o1, o2, ?_⟩
              intro j lo v hj hcs
              obtain ⟨p1, p2, p3, arr2, t2, fz2, p4, p5, p6⟩ := H1.hr.cells _ _ _ _ _ _ d1 l1
              rw [show ({ w with drawn := w.drawn + 1 } : World).heap[c.cb]? = w.heap[c.cb]? from rfl, g6] at p4
              cases p4
              obtain ⟨u, r1, r2, r3⟩ := p6 _ _ _ hcs (by rw [d2]; exact p3 _ _ _ hcs) (by omega) (by omega)
              refine ⟨u, ?_, r2, r3⟩
              rw [o3 j hj, ← r1]; congr 1; omega
          have st := d6 olds us rest el u2 o2 o3
          refine ⟨_, _, .slice (some ⟨w.heap.size, 0, none⟩) (len + n) k, ?_, Step.trans H H1 st, ?_⟩
          · rw [k3]
            simp only [Sem.run_bind, o1, u1, Sem.run_pure, Result.andThen_ok, run_newRow, List.append_toArray]
          · rw [d3]
            refine .slice _ ⟨w.heap.size, 0, none⟩ _ _ _ k (Nat.le_refl _) k1 g3 (Nat.le_refl _) (.inr ⟨⟨_, addE_same _ _ _ _, rfl, Nat.le_refl _, by simp⟩, ?_⟩)
            refine ⟨_, el, (0, 0), alloc_new _ _, ?_, fz00 _⟩
            simp only [List.size_toArray, List.length_append, Nat.zero_add]
            rw [o2, ← lens, hvl, k2, ← Nat.add_mul, ← Nat.add_mul]
            exact Nat.mul_le_mul_right _ (by omega)
end Go.Vai
/- The abstract machine: copies, conversions. -/
namespace Go.Vai
set_option linter.unusedVariables false
set_option linter.unusedSimpArgs false
set_option linter.unusedSectionVars false
variable [Lane]
variable {P : Program} {base : Nat} {φ φ' φ'' : Emb} {h h' h'' : Heap} {w w' w'' : World}

theorem srcCells_zero {size : Nat} {x : AV} {vs : List AV} (e : srcCells h size 0 x = some vs) : vs = [] := by
  unfold srcCells at e
  split at e
  · split at e
    case isFalse => cases e
    cases e; simp [bytesA]
  · cases e; rfl
  · split at e
    case isFalse => cases e
    rw [Nat.zero_mul] at e
    simp only [loadN, Option.some.injEq] at e
    exact e.symm
  · split at e
    case isFalse => cases e
    simp only [Option.bind_eq_some_iff] at e
    obtain ⟨_, _, e⟩ := e
    simp only [transB, Option.some.injEq] at e
    exact e.symm
  · cases e
theorem copy_ok (H : HR base φ h w) {ts : Array TypeId} {t ty : TypeId} (h0 : ts[0]? = some t) {d s : AV} {dv sv : Value} (hd : VR φ w d dv) (hs : VR φ w s sv) {r : AV × Heap} (e : copyA P h t d s = some r) :
    ∃ w' v, (Builtin.copy_ ts ty #[dv, sv]).run P w = .ok v w' ∧ Step base φ h w φ r.2 w' ∧ VR φ w' r.1 v := by
  unfold copyA at e
  split at e
  case h_2 => cases e
  rename_i el hu
  split at e
  case h_2 => cases e
  rename_i a dl room sz
  simp only [Option.bind_eq_some_iff] at e
  obtain ⟨size, hsz, sl, hn, vs, hvs, e⟩ := e
  have hlen := lenOf_ok (P := P) (w := w) hs hn
  have hcap : ∀ a len room sz, s = .slice (some a) len room sz → min sl dl ≤ len := by
    rintro a len room sz rfl
    simp only [lenA, Option.some.injEq] at hn; omega
  have hnil : ∀ len room sz, s = .slice none len room sz → min sl dl = 0 := by
    rintro len room sz rfl
    cases hs
    simp only [lenA, Option.some.injEq] at hn; omega
  obtain ⟨us, u1, u2⟩ := srcCells_ok (P := P) H hs hvs hcap hnil
  have hmin : Nat.min sl dl = min sl dl := rfl
  cases hd with
  | nilSlice =>
    cases e
    refine ⟨w, _, ?_, Step.refl H, .int .i64 _⟩
    unfold Builtin.copy_
    simp only [h0, List.getElem?_toArray, List.getElem?_cons_zero, List.getElem?_cons_succ]
    simp only [Sem.run_bind, run_underlying hu, Result.andThen_ok, run_sizeT hsz, hlen, hmin, u1, Sem.run_pure]
    rfl
  | slice a ad _ _ _ cap g1 g2 g3 g4 g5 =>
    simp only at e
    split at e
    case isFalse => cases e
    rename_i hsize
    subst hsize
    simp only [Option.bind_eq_some_iff, Option.some.injEq] at e
    obtain ⟨h', hst, rfl⟩ := e
    obtain ⟨w', s1, s2⟩ : ∃ w', (storeCells ad us 0).run P w = .ok () w' ∧ Step base φ h w φ h' w' := by
      rcases g5 with g5 | ⟨g5, g6⟩
      · have : min sl dl = 0 := by omega
        rw [this] at hvs
        have := srcCells_zero hvs
        subst this
        cases u2
        simp only [storeN, Option.some.injEq] at hst
        subst hst
        exact ⟨w, by simp [storeCells], Step.refl H⟩
      · obtain ⟨w', s1, s2, _⟩ := storeN_cells (P := P) H g5 u2 0 hst
        exact ⟨w', s1, s2⟩
    refine ⟨w', _, ?_, s2, .int .i64 _⟩
    unfold Builtin.copy_
    simp only [h0, List.getElem?_toArray, List.getElem?_cons_zero, List.getElem?_cons_succ]
    simp only [Sem.run_bind, run_underlying hu, Result.andThen_ok, run_sizeT hsz, hlen, hmin, u1, s1, Sem.run_pure]
    rfl
theorem fold_push : ∀ (ns : List Int) (l : List UInt8), ns.foldl (fun (r : ByteArray) n => r.push (UInt8.ofNat n.toNat)) ⟨⟨l⟩⟩ = ⟨⟨l ++ ns.map fun n => UInt8.ofNat n.toNat⟩⟩
  | [], l => by simp
  | n :: ns, l => by
    rw [List.foldl_cons]
    have : (⟨⟨l⟩⟩ : ByteArray).push (UInt8.ofNat n.toNat) = ⟨⟨l ++ [UInt8.ofNat n.toNat]⟩⟩ := by simp [ByteArray.push]
    rw [this, fold_push ns]
    simp
theorem bytes_read {vs : List AV} {us : List Value} (k : All2 (VR φ w) vs us) : ∀ {l : List UInt8}, mapO byteOf vs = some l → ∃ ns : List Int, us = ns.map (Value.int .u8) ∧ (ns.map fun n => UInt8.ofNat n.toNat) = l := by
  induction k with
  | nil => intro l e; simp only [mapO, Option.some.injEq] at e; subst e; exact ⟨[], rfl, rfl⟩
  | @cons a b l' m' hab ht ih =>
    intro l e
    simp only [mapO, Option.bind_eq_some_iff, Option.some.injEq] at e
    obtain ⟨c, hc, r, hr, rfl⟩ := e
    obtain ⟨ns, rfl, rfl⟩ := ih hr
    unfold byteOf at hc
    split at hc
    · rename_i c0
      cases hc; cases hab
      exact ⟨c0 :: ns, by simp, by simp⟩
    · cases hc
/-- a new row whose end may not be written: a string's bytes -/
theorem run_stringish (t : TypeId) (us : List Value) {k : Nat} (hk : us.length = k) (w : World) :
    (markStringish ⟨w.heap.size, 0, none⟩).run P (w.alloc (.cells us.toArray t)) = .ok () (w.alloc (.cells us.toArray t (k, k + 1))) := by
  have hh : (w.alloc (.cells us.toArray t)).shape? w.heap.size = some (t, k) := by
    unfold World.shape?
    rw [alloc_new]
    simp [hk]
  have hf : (w.alloc (.cells us.toArray t)).freeze ⟨w.heap.size, k, none⟩ 1 = w.alloc (.cells us.toArray t (k, k + 1)) := by
    unfold World.freeze
    rw [if_neg (by decide)]
    unfold World.alloc
    congr 1
    apply Array.ext_getElem?
    intro i
    rw [Array.getElem?_modify]
    by_cases e : w.heap.size = i
    · subst e; simp
    · rw [if_neg e]
      rw [Array.getElem?_push, Array.getElem?_push, if_neg (Ne.symm e), if_neg (Ne.symm e)]
  unfold markStringish
  simp only [shape, freeze, Sem.run_bind, Sem.run, Result.andThen, hh, hf]
/-- a row of the model that is marked as the bytes of a string -/
theorem mark_ok (H : HR base φ h w) {a : Loc} {ad : Addr} {gen : Nat} {cs : Tr (Nat × AV)} (hg : h.objs.get a.b = some (.cells false gen cs)) (hodd : gen % 2 = 1) (hL : LR φ a ad) :
    ∃ w', (markStringish ad).run P w = .ok () w' ∧ Step base φ h w φ h w' := by
  obtain ⟨c, h1, h2, h3, rfl⟩ := hL
  obtain ⟨q1, q2, q3, arr, t, fz, q4, q5, q6⟩ := H.cells _ _ _ _ _ _ hg h1
  have hz := q5 rfl
  obtain ⟨lo, hi⟩ := fz
  have hsh : w.shape? c.cb = some (t, arr.size) := by unfold World.shape?; rw [q4]
  let fz' : Nat × Nat := if lo == hi then (arr.size, arr.size + 1) else (min lo arr.size, max hi (arr.size + 1))
  have hcb := H.range _ _ _ h1
  have hw : (w.freeze ⟨c.cb, arr.size, none⟩ 1).heap = w.heap.setIfInBounds c.cb (.cells arr t fz') := by
    unfold World.freeze
    rw [if_neg (by decide)]
    apply Array.ext_getElem?
    intro i
    show (w.heap.modify c.cb _)[i]? = _
    rw [Array.getElem?_modify]
    by_cases e : c.cb = i
    · subst e
      rw [if_pos rfl, q4, Array.getElem?_setIfInBounds_self, if_pos hcb]
      rfl
    · rw [if_neg e, Array.getElem?_setIfInBounds_ne e]
  have hfz : FzOk fz' arr.size := by
    obtain ⟨⟨z1, z2⟩, _⟩ := hz
    simp only at z1 z2
    show FzOk (if lo == hi then (arr.size, arr.size + 1) else (min lo arr.size, max hi (arr.size + 1))) arr.size
    by_cases e : lo = hi
    · subst e
      simp only [beq_self_eq_true, if_true]
      exact ⟨Nat.le_succ _, fun o ho q => by simp only at q; omega⟩
    · have : (lo == hi) = false := by simpa using e
      simp only [this, Bool.false_eq_true, if_false]
      have hlo : arr.size ≤ lo := by
        rcases Nat.lt_or_ge lo arr.size with k | k
        · exact absurd ⟨Nat.le_refl _, by omega⟩ (z2 lo k)
        · exact k
      refine ⟨by simp only; omega, fun o ho q => ?_⟩
      simp only at q
      omega
  have hrows : Rows w (w.freeze ⟨c.cb, arr.size, none⟩ 1) := by
    rintro cb k ⟨arr2, t2, fz2, p1, p2, p3⟩
    by_cases e : cb = c.cb
    · subst e
      rw [q4] at p1; cases p1
      exact ⟨arr, t, fz', by rw [hw, Array.getElem?_setIfInBounds_self, if_pos hcb], p2, hfz⟩
    · exact ⟨arr2, t2, fz2, by rw [hw, Array.getElem?_setIfInBounds_ne (Ne.symm e)]; exact p1, p2, p3⟩
  have hsz : (w.freeze ⟨c.cb, arr.size, none⟩ 1).heap.size = w.heap.size := by rw [hw, Array.size_setIfInBounds]
  have hrest : (w.freeze ⟨c.cb, arr.size, none⟩ 1).os = w.os ∧ (w.freeze ⟨c.cb, arr.size, none⟩ 1).tape = w.tape ∧ (w.freeze ⟨c.cb, arr.size, none⟩ 1).output = w.output := by
    unfold World.freeze
    rw [if_neg (by decide)]
    exact ⟨rfl, rfl, rfl⟩
  refine ⟨w.freeze ⟨c.cb, arr.size, none⟩ 1, ?_, ?_⟩
  · simp only [markStringish, shape, freeze, Sem.run_bind, Sem.run, hsh, Result.andThen_ok]
  · refine ⟨⟨⟨H.fresh, by rw [hsz]; exact H.low, fun b g c e => by rw [hsz]; exact H.range b g c e, H.inj, H.los, ?_, ?_⟩, Ext.refl _, hrows, ⟨hrest.1, hrest.2.1, hrest.2.2, by rw [hsz]; exact Nat.le_refl _, ?_⟩, fun b g c e _ => ⟨g, c, e, rfl⟩, Nat.le_refl _, fun _ _ e => e⟩, fun b m n cur g c' e1 e2 => ⟨?_, rfl⟩⟩
    · intro b ro gen' cs' g c' e1 e2
      obtain ⟨p1, p2, p3, arr2, t2, fz2, pa, pf, pk⟩ := H.cells _ _ _ _ _ _ e1 e2
      by_cases e : c'.cb = c.cb
      · rw [e, q4] at pa; cases pa
        have hb : b = a.b := (H.inj _ _ _ _ _ _ e2 h1 e).1
        subst hb
        rw [hg] at e1
        cases e1
        refine ⟨p1, p2, p3, arr, t, fz', by rw [e, hw, Array.getElem?_setIfInBounds_self, if_pos hcb], fun _ => ⟨hfz, fun z => by have := p1.2; omega⟩, ?_⟩
        intro i lo v hi hle hao hie
        obtain ⟨u, r1, r2, r3⟩ := pk i lo v hi hle hao hie
        exact ⟨u, r1, r2.mono (Ext.refl _) hrows, r3⟩
      · refine ⟨p1, p2, p3, arr2, t2, fz2, by rw [hw, Array.getElem?_setIfInBounds_ne (Ne.symm e)]; exact pa, pf, ?_⟩
        intro i lo v hi hle hao hie
        obtain ⟨u, r1, r2, r3⟩ := pk i lo v hi hle hao hie
        exact ⟨u, r1, r2.mono (Ext.refl _) hrows, r3⟩
    · intro b x g c' e1 hx e2
      obtain ⟨r1, r0, ob, r2, r3⟩ := H.other _ _ _ _ e1 hx e2
      have e : c'.cb ≠ c.cb := by
        intro e
        rw [e, q4] at r2; cases r2
        exact r3.notCells
      exact ⟨r1, r0, ob, by rw [hw, Array.getElem?_setIfInBounds_ne (Ne.symm e)]; exact r2, r3.mono (Ext.refl _) hrows⟩
    · intro cb hcb' hk
      have e : cb ≠ c.cb := fun e => hk a.b a.g c h1 (by rw [hg]; rfl) e.symm
      rw [hw, Array.getElem?_setIfInBounds_ne (Ne.symm e)]
    · obtain ⟨_, _, ob, r2, r3⟩ := H.other _ _ _ _ e1 rfl e2
      have e : c'.cb ≠ c.cb := by
        intro e
        rw [e, q4] at r2; cases r2
        exact r3.notCells
      rw [hw, Array.getElem?_setIfInBounds_ne (Ne.symm e)]
theorem convert_ok (H : HR base φ h w) {src dst : TypeId} {x : AV} {xv : Value} (hx : VR φ w x xv) {r : AV × Heap} (e : convertA P h src dst x = some r) :
    ∃ φ' w' v, (convert src dst xv).run P w = .ok v w' ∧ Step base φ h w φ' r.2 w' ∧ VR φ' w' r.1 v := by
  unfold convertA at e
  split at e
  · cases e
  rename_i hsome
  obtain ⟨us, hs⟩ : ∃ us, P.underlying src = some us := by
    cases q : P.underlying src with
    | none => rw [q] at hsome; simp at hsome
    | some us => exact ⟨us, rfl⟩
  split at e
  · split at e
    · rename_i k n _ k' hd
      cases e; cases hx
      refine ⟨φ, w, _, ?_, Step.refl H, .int _ _⟩
      simp [convert, run_underlying hs, run_underlying hd, Conv.intToInt]
    · rename_i k n _ hd
      cases e; cases hx
      refine ⟨φ, w, .string (Utf8.encode n), ?_, Step.refl H, .str _⟩
      simp [convert, run_underlying hs, run_underlying hd, Conv.intToString]
    · cases e
  · rename_i l
    split at e
    · rename_i hd
      cases e; cases hx
      refine ⟨φ, w, _, ?_, Step.refl H, .str _⟩
      simp [convert, run_underlying hs, run_underlying hd]
    · rename_i el hd
      split at e
      case h_2 => cases e
      rename_i he
      split at e
      case isFalse => cases e
      rename_i hlen
      simp only [Option.bind_eq_some_iff, Option.some.injEq] at e
      obtain ⟨r', hr', rfl⟩ := e
      cases hx
      have H1 := drew_step H (w.drawn + 1)
      have hcut : ∃ k, l.length ≤ k ∧ (Question.appendCap l.length 0 el).cut (w.tape w.drawn (Question.appendCap l.length 0 el)) = k := ⟨_, by simp only [Question.cut]; omega, rfl⟩
      obtain ⟨k, hk, hcut⟩ := hcut
      obtain ⟨n1, n2, n3⟩ := newRow1_step H1.hr (us' := List.replicate (k - l.length) (.int .u8 0)) (fz := (k, k + 1)) el (bytes_all2 l) hr' ⟨⟨Nat.le_succ _, by
        intro o ho q
        simp only [List.length_append, List.length_map, List.length_replicate] at ho
        simp only at q
        omega⟩, fun z => by cases z⟩
      refine ⟨_, _, .slice (some ⟨w.heap.size, 0, none⟩) l.length k, ?_, Step.trans H H1 n2, ?_⟩
      · simp only [convert, Sem.run_bind, run_underlying hs, run_underlying hd, run_underlying he, Result.andThen_ok, Conv.stringToBytes]
        have hsz : (⟨⟨l⟩⟩ : ByteArray).size = l.length := rfl
        have harr : (Array.map (fun (b : UInt8) => Value.int .u8 b.toNat) ⟨l⟩ ++ Array.replicate (k - l.length) (Value.int .u8 0)) = (l.map (fun b => Value.int .u8 b.toNat) ++ List.replicate (k - l.length) (Value.int .u8 0)).toArray := by simp
        have hst := run_stringish (P := P) el (l.map (fun b => Value.int .u8 b.toNat) ++ List.replicate (k - l.length) (Value.int .u8 0)) (k := k) (by simp; omega) { w with drawn := w.drawn + 1 }
        have hst' : (markStringish ⟨w.heap.size, 0, none⟩).run P _ = _ := hst
        simp only [hsz, run_choose, Question.forced, Bool.false_eq_true, if_false, hcut, Result.andThen_ok, harr, run_newRow, hst', Sem.run_pure]
      · refine .slice _ ⟨w.heap.size, 0, none⟩ _ _ _ k (Nat.le_refl _) hk (by decide) (by simp) (.inr ⟨?_, ?_⟩)
        · rw [n1]; exact ⟨_, addE_same _ _ _ _, by simp [bytesA], Nat.le_refl _, by simp⟩
        · refine ⟨_, el, (k, k + 1), alloc_new _ _, by simp; omega, Nat.le_succ _, ?_⟩
          intro o ho q
          simp only [List.size_toArray, List.length_append, List.length_map, List.length_replicate] at ho
          simp only at q
          omega
    · cases e
  · rename_i ls
    split at e
    case h_2 => cases e
    rename_i el hd
    split at e
    case h_2 => cases e
    rename_i he
    simp only [Option.bind_eq_some_iff] at e
    obtain ⟨n, hn, e⟩ := e
    split at e
    case isFalse => cases e
    rename_i hlen
    simp only [Option.bind_eq_some_iff, Option.some.injEq] at e
    obtain ⟨vs, hvs, r', hr', rfl⟩ := e
    obtain ⟨l, k1, k2, rfl⟩ := hx.vec_str hn
    subst k2
    have hall : All2 (VR φ w) vs (l.map fun b => Value.int .u8 b.toNat) := by
      have := transB_ok (φ := φ) (w := w) hvs k1
      rwa [List.take_length] at this
    have hvl : vs.length = l.length := transB_length hvs
    have H1 := drew_step H (w.drawn + 1)
    have hcut : ∃ k, l.length ≤ k ∧ (Question.appendCap l.length 0 el).cut (w.tape w.drawn (Question.appendCap l.length 0 el)) = k := ⟨_, by simp only [Question.cut]; omega, rfl⟩
    obtain ⟨k, hk, hcut⟩ := hcut
    obtain ⟨n1, n2, n3⟩ := newRow1_step H1.hr (us' := List.replicate (k - l.length) (.int .u8 0)) (fz := (k, k + 1)) el (hall.step H1) hr' ⟨⟨Nat.le_succ _, by
      intro o ho q
      simp only [List.length_append, List.length_map, List.length_replicate] at ho
      simp only at q
      omega⟩, fun z => by cases z⟩
    refine ⟨_, _, .slice (some ⟨w.heap.size, 0, none⟩) l.length k, ?_, Step.trans H H1 n2, ?_⟩
    · simp only [convert, Sem.run_bind, run_underlying hs, run_underlying hd, run_underlying he, Result.andThen_ok, Conv.stringToBytes]
      have hsz : (⟨⟨l⟩⟩ : ByteArray).size = l.length := rfl
      have harr : (Array.map (fun (b : UInt8) => Value.int .u8 b.toNat) ⟨l⟩ ++ Array.replicate (k - l.length) (Value.int .u8 0)) = (l.map (fun b => Value.int .u8 b.toNat) ++ List.replicate (k - l.length) (Value.int .u8 0)).toArray := by simp
      have hst := run_stringish (P := P) el (l.map (fun b => Value.int .u8 b.toNat) ++ List.replicate (k - l.length) (Value.int .u8 0)) (k := k) (by simp; omega) { w with drawn := w.drawn + 1 }
      have hst' : (markStringish ⟨w.heap.size, 0, none⟩).run P _ = _ := hst
      simp only [hsz, run_choose, Question.forced, Bool.false_eq_true, if_false, hcut, Result.andThen_ok, harr, run_newRow, hst', Sem.run_pure]
    · refine .slice _ ⟨w.heap.size, 0, none⟩ _ _ _ k (Nat.le_refl _) hk (by decide) (by simp) (.inr ⟨?_, ?_⟩)
      · rw [n1]; exact ⟨_, addE_same _ _ _ _, by simp [hvl], Nat.le_refl _, by simp⟩
      · refine ⟨_, el, (k, k + 1), alloc_new _ _, by simp; omega, Nat.le_succ _, ?_⟩
        intro o ho q
        simp only [List.size_toArray, List.length_append, List.length_map, List.length_replicate] at ho
        simp only at q
        omega
  · rename_i a n room sz
    split at e
    case h_2 => cases e
    rename_i el hsl
    split at e
    case h_3 => cases e
    case h_2 =>
      rename_i e' hd
      split at e
      case h_2 => cases e
      rename_i he
      split at e
      case isFalse => cases e
      rename_i hsd
      subst hsd
      unfold sameA at e
      split at e
      case h_2 => cases e
      rename_i a
      split at e
      case h_2 => cases e
      rename_i gen cs hg
      split at e
      case isFalse => cases e
      rename_i hroom
      cases e
      cases hx with
      | slice _ ad _ _ _ cap g1 g2 g3 g4 g5 =>
      have g5' := g5.resolve_left (by omega)
      obtain ⟨w', m1, m2⟩ := mark_ok (P := P) H hg hroom.2 g5'.1
      refine ⟨φ, w', .slice (some ad) n cap, ?_, m2, .slice a ad n room sz cap g1 g2 g3 g4 (.inr ⟨g5'.1, m2.rows _ _ g5'.2⟩)⟩
      simp only [convert, Sem.run_bind, run_underlying hd, Result.andThen_ok, run_underlying he, beq_self_eq_true, m1, Sem.run_pure]
    rename_i hd
    split at e
    case h_2 => cases e
    rename_i he
    split at e
    · cases e; cases hx
      refine ⟨φ, w, _, ?_, Step.refl H, .str []⟩
      rw [run_convert_bytes_string w src dst el _ _ _ hsl he hd]
      rfl
    · rename_i a
      split at e
      case isFalse => cases e
      rename_i hsz
      subst hsz
      simp only [Option.bind_eq_some_iff, Option.map_eq_some_iff] at e
      obtain ⟨vs, hvs, l, hl, rfl⟩ := e
      cases hx with
      | slice _ ad _ _ _ cap g1 g2 g3 g4 g5 =>
      have key : ∃ us : List Value, (loadCells ad n).run P w = .ok us.toArray w ∧ All2 (VR φ w) vs us := by
        rcases g5 with g5 | ⟨g5, _⟩
        · have : n = 0 := by omega
          subst this
          simp only [loadN, Option.some.injEq] at hvs
          subst hvs
          exact ⟨[], by simp [loadCells, loadCellsFrom], .nil⟩
        · obtain ⟨us, q1, q2, _⟩ := loadN_cells (P := P) H g5 n 0 vs #[] hvs
          exact ⟨us, by simpa [loadCells] using q1, q2⟩
      obtain ⟨us, q1, q2⟩ := key
      obtain ⟨ns, rfl, rfl⟩ := bytes_read q2 hl
      refine ⟨φ, w, .string ⟨⟨ns.map fun n => UInt8.ofNat n.toNat⟩⟩, ?_, Step.refl H, .str _⟩
      rw [run_convert_bytes_string w src dst el _ _ _ hsl he hd, run_bytesToString w ad n cap ns q1]
      have := fold_push ns []
      rw [List.nil_append] at this
      rw [← this]; rfl
  · cases e
end Go.Vai
/- The abstract machine: maps. -/
namespace Go.Vai
set_option linter.unusedVariables false
set_option linter.unusedSimpArgs false
set_option linter.unusedSectionVars false
variable [Lane]
variable {P : Program} {base : Nat} {φ φ' φ'' : Emb} {h h' h'' : Heap} {w w' w'' : World}

theorem part_ok {t : TypeId} {xs : List AV} {vs : List Value} {off : Nat} {v : AV} (hvs : All2 (VR φ w) xs vs) (e : partA P t xs off = some v) :
    ∃ u, (part t ⟨vs⟩ off).run P w = .ok u w ∧ VR φ w v u := by
  unfold partA at e
  simp only [Option.bind_eq_some_iff] at e
  obtain ⟨g, hg, e⟩ := e
  cases g with
  | true =>
    simp only [if_true, Option.map_eq_some_iff] at e
    obtain ⟨n, hn, rfl⟩ := e
    refine ⟨.agg ⟨(vs.drop off).take n⟩, ?_, .agg _ _ ((hvs.drop _).take _)⟩
    unfold part
    simp only [Sem.run_bind, Result.andThen_ok, run_isAggT hg, if_true, run_sizeT hn, Sem.run_pure]
    congr 2
    simp
  | false =>
    simp only [Bool.false_eq_true, if_false] at e
    obtain ⟨u, h1, h2⟩ := hvs.get _ _ e
    refine ⟨u, ?_, h2⟩
    unfold part
    simp only [Sem.run_bind, Result.andThen_ok, run_isAggT hg, Bool.false_eq_true, if_false]
    have : (⟨vs⟩ : Array Value)[off]? = some u := by simpa using h1
    rw [this]; rfl
theorem eqFs_ok {eq : TypeId → AV → AV → Option Bool} {d : Nat} {xs ys : List AV} {vs us : List Value} (hxs : All2 (VR φ w) xs vs) (hys : All2 (VR φ w) ys us)
    (heq : ∀ t x y b xv yv, eq t x y = some b → VR φ w x xv → VR φ w y yv → (Op.equalIn d t xv yv).run P w = .ok b w) : ∀ (fs : List Field) (b : Bool), eqFs P eq xs ys fs = some b →
    (Op.eqFields d ⟨vs⟩ ⟨us⟩ fs).run P w = .ok b w
  | [], b, e => by cases e; simp [Op.eqFields]
  | f :: fs, b, e => by
    unfold eqFs at e
    unfold Op.eqFields
    by_cases hn : f.name = "_"
    · rw [if_pos hn] at e
      rw [if_neg (by simpa using hn)]
      exact eqFs_ok hxs hys heq fs b e
    · rw [if_neg hn] at e
      rw [if_pos hn]
      simp only [Option.bind_eq_some_iff] at e
      obtain ⟨x, hx, y, hy, c, hc, e⟩ := e
      obtain ⟨xv, p1, p2⟩ := part_ok (P := P) hxs hx
      obtain ⟨yv, q1, q2⟩ := part_ok (P := P) hys hy
      have r := heq _ _ _ _ _ _ hc p2 q2
      simp only [Sem.run_bind, p1, q1, r, Result.andThen_ok]
      cases c with
      | true =>
        simp only [if_true] at e
        simpa using eqFs_ok hxs hys heq fs b e
      | false =>
        simp only [Bool.false_eq_true, if_false, Option.some.injEq] at e
        subst e
        simp
theorem eqIn_ok : ∀ (n : Nat) (t : TypeId) (x y : AV) (b : Bool) (xv yv : Value), eqIn P n t x y = some b → VR φ w x xv → VR φ w y yv → ∀ m, (Op.equalIn (n + m) t xv yv).run P w = .ok b w
  | 0, t, x, y, b, xv, yv, e, _, _, m => by cases e
  | n + 1, t, x, y, b, xv, yv, e, hx, hy, m => by
    unfold eqIn at e
    rw [show n + 1 + m = (n + m) + 1 by omega]
    split at e
    · rename_i hu
      split at e
      case h_2 => cases e
      split at e
      case h_2 => cases e
      cases e; cases hx; cases hy
      exact run_equalIn_bool w _ t _ _ hu
    · rename_i hu
      split at e
      case h_2 => cases e
      split at e
      case h_2 => cases e
      split at e
      case isFalse => cases e
      rename_i hk
      cases e; cases hx; cases hy
      subst hk
      exact run_equalIn_int w _ t _ _ _ _ hu
    · rename_i hu
      split at e
      case h_2 => cases e
      split at e
      case h_2 => cases e
      cases e; cases hx; cases hy
      rename_i l m
      rw [run_equalIn_string w _ t _ _ hu]
      simp [ByteArray.toList_eq]
    · rename_i fs hu
      split at e
      case h_2 => cases e
      split at e
      case h_2 => cases e
      split at e
      case isTrue => cases e
      rename_i hp
      cases hx with
      | agg _ vs hvs =>
      cases hy with
      | agg _ us hus =>
      have hf : P.fieldsOf t = fs := by simp [Program.fieldsOf, hu]
      rw [run_equalIn_struct w (n + m) t ⟨vs⟩ ⟨us⟩ (by rw [hf]; exact hu) (by simpa using hp), hf]
      exact eqFs_ok hvs hus (fun t x y b xv yv k hx hy => eqIn_ok n t x y b xv yv k hx hy m) _ _ e
    · cases e
theorem chk_ok (em : Bool) : ∀ (n : Nat) (t : TypeId) (x : AV) (xv : Value), chkA P n t x = true → VR φ w x xv → ∀ m, (Instr.checkKey em (n + m) t xv).run P w = .ok () w
  | 0, t, x, xv, e, _, m => by cases e
  | n + 1, t, x, xv, e, hx, m => by
    unfold chkA at e
    rw [show n + 1 + m = (n + m) + 1 by omega]
    split at e
    · rename_i hu
      split at e
      case h_2 => cases e
      cases hx
      simp [Instr.checkKey, run_underlying hu]
    · rename_i hu
      split at e
      case h_2 => cases e
      cases hx
      simp [Instr.checkKey, run_underlying hu]
    · rename_i hu
      split at e
      case h_2 => cases e
      cases hx
      simp [Instr.checkKey, run_underlying hu]
    · rename_i fs hu
      split at e
      case h_2 => cases e
      rename_i xs
      cases hx with
      | agg _ vs hvs =>
      unfold Instr.checkKey
      simp only [Sem.run_bind, run_underlying hu, Result.andThen_ok]
      rw [← Array.forIn_toList]
      generalize fs.toList = L at e ⊢
      clear hu
      induction L with
      | nil => simp
      | cons f L ih =>
        unfold chkFs at e
        by_cases hn : f.name = "_"
        · rw [if_pos hn] at e; cases e
        · rw [if_neg hn] at e
          simp only [Bool.and_eq_true] at e
          obtain ⟨e1, e2⟩ := e
          split at e1
          case h_2 => cases e1
          rename_i v hv
          obtain ⟨u, p1, p2⟩ := part_ok (P := P) hvs hv
          have r := chk_ok em n _ _ _ e1 p2 m
          simp only [List.forIn_cons, Sem.run_bind, hn, ne_eq, not_false_eq_true, if_true, Result.andThen_ok, p1, r, Sem.run_pure]
          exact ih e2
    · cases e
theorem eqK_ok {kt : TypeId} {x y : AV} {b : Bool} {xv yv : Value} (e : eqK P kt x y = some b) (hx : VR φ w x xv) (hy : VR φ w y yv) (m : Nat) : (Op.equalIn (5 + m) kt xv yv).run P w = .ok b w := by
  unfold eqK at e
  split at e
  · rename_i b' he
    cases e
    exact eqIn_ok 5 kt x y b xv yv he hx hy m
  · obtain ⟨n, hn, e⟩ := firstD_some e
    simp only [Option.bind_eq_some_iff] at e
    obtain ⟨rs, hrs, e⟩ := e
    obtain ⟨c, h1, h2⟩ := mapO_at hrs (Lane.l n) (Lane.l n) (range_at (Lane.lt n hn))
    have := allSame_at e h1
    subst this
    exact eqIn_ok 5 kt _ _ c xv yv h2 (hx.laneV n) (hy.laneV n) m
theorem chkK_at {kt : TypeId} {k : AV} {kv : Value} (e : chkK P kt k = true) (hk : VR φ w k kv) : ∃ k', chkA P 5 kt k' = true ∧ VR φ w k' kv := by
  unfold chkK at e
  simp only [Bool.or_eq_true] at e
  rcases e with e | e
  · exact ⟨k, e, hk⟩
  · obtain ⟨n, hn, e⟩ := List.any_eq_true.1 e
    exact ⟨_, List.all_eq_true.1 e (Lane.l n) (List.mem_range.2 (Lane.lt n hn)), hk.laneV n⟩
/-- what is found, and where -/
def FoundR (φ : Emb) (w : World) : Option (Nat × AV) → Option (Nat × Value) → Prop
  | none, none => True
  | some (i, v), some (j, u) => i = j ∧ VR φ w v u
  | _, _ => False
theorem findAsking_ok {kt : TypeId} {k : AV} {kv : Value} (hk : VR φ w k kv) : ∀ {es : List (AV × AV)} {ms : List MapEntry}, All2 (EntR φ w) es ms → ∀ {i : Nat} {r : Option (Nat × AV)}, findM P kt k es i = some r →
    ∃ r', (Instr.findAsking kt kv ms i).run P w = .ok r' w ∧ FoundR φ w r r'
  | [], _, .nil, i, r, e => by
    cases e
    exact ⟨none, by simp [Instr.findAsking], trivial⟩
  | e :: es, _, .cons (b := m) (m := ms) he ht, i, r, hr => by
    unfold findM at hr
    simp only [Option.bind_eq_some_iff] at hr
    obtain ⟨b, hb, hr⟩ := hr
    have q := eqK_ok hb hk he.key 9995
    have q' : (Op.equal kt kv m.key).run P w = .ok b w := q
    unfold Instr.findAsking
    simp only [Sem.run_bind, q', Result.andThen_ok]
    cases b with
    | true =>
      simp only [if_true, Option.some.injEq] at hr
      subst hr
      exact ⟨some (i, m.val), by simp, rfl, he.val⟩
    | false =>
      simp only [Bool.false_eq_true, if_false] at hr
      obtain ⟨r', q1, q2⟩ := findAsking_ok hk ht hr
      exact ⟨r', by simpa using q1, q2⟩
theorem sameNow_eq {kt : TypeId} {d : TypeDesc} (hd : P.underlying kt = some d) {k ek : AV} {kv mk : Value} {b : Bool} (hb : eqIn P 5 kt k ek = some b) (hk : VR φ w k kv) (he1 : VR φ w ek mk) : ∀ c, Instr.sameNow d kv mk = some c → c = b := by
    intro c hc
    unfold eqIn at hb
    rw [hd] at hb
    cases d <;> simp only at hb <;> try (cases hb)
    all_goals
      split at hb
      case h_2 => cases hb
    all_goals
      split at hb
      case h_2 => cases hb
    · cases hb
      generalize kv = q1 at hk hc
      generalize mk = q2 at he1 hc
      cases hk; cases he1
      simpa [Instr.sameNow] using hc.symm
    · split at hb
      case isFalse => cases hb
      cases hb
      generalize kv = q1 at hk hc
      generalize mk = q2 at he1 hc
      cases hk; cases he1
      rename_i hkk
      subst hkk
      simpa [Instr.sameNow] using hc.symm
    · cases hb
      generalize kv = q1 at hk hc
      generalize mk = q2 at he1 hc
      cases hk; cases he1
      simp only [Instr.sameNow, Option.some.injEq] at hc
      rw [← hc]
      rw [beq_toListBytes]; simp [ByteArray.toList_eq]
    · generalize kv = q1 at hk hc
      cases hk
      simp [Instr.sameNow] at hc
/-- the quick way finds the same, where it is taken -/
theorem findNow_ok {kt : TypeId} {d : TypeDesc} (hd : P.underlying kt = some d) {k : AV} {kv : Value} (hk : VR φ w k kv) : ∀ {es : List (AV × AV)} {ms : List MapEntry}, All2 (EntR φ w) es ms → ∀ {i : Nat} {r : Option (Nat × AV)} {r' : Option (Nat × Value)},
    findM P kt k es i = some r → Instr.findNow d kv ms i = some r' → FoundR φ w r r'
  | [], _, .nil, i, r, r', e, e' => by cases e; cases e'; trivial
  | (ek, ev) :: es, _, .cons (b := m) (m := ms) he ht, i, r, r', hr, hr' => by
    unfold findM at hr
    simp only [Option.bind_eq_some_iff] at hr
    obtain ⟨b, hb, hr⟩ := hr
    unfold Instr.findNow at hr'
    have same : ∀ c, Instr.sameNow d kv m.key = some c → c = b := by
      unfold eqK at hb
      split at hb
      · rename_i b' hb'
        cases hb
        exact sameNow_eq hd hb' hk he.key
      · obtain ⟨n, hn, hb⟩ := firstD_some hb
        simp only [Option.bind_eq_some_iff] at hb
        obtain ⟨rs, hrs, hb⟩ := hb
        obtain ⟨c, h1, h2⟩ := mapO_at hrs (Lane.l n) (Lane.l n) (range_at (Lane.lt n hn))
        have := allSame_at hb h1
        subst this
        exact sameNow_eq hd h2 (hk.laneV n) (he.key.laneV n)
    split at hr'
    · rename_i hc
      have := same _ hc
      subst this
      simp only [if_true, Option.some.injEq] at hr hr'
      subst hr; subst hr'
      exact ⟨rfl, he.val⟩
    · rename_i hc
      have := same _ hc
      subst this
      simp only [Bool.false_eq_true, if_false] at hr
      exact findNow_ok hd hk ht hr hr'
    · cases hr'
theorem findKey_ok {kt : TypeId} {d : TypeDesc} (hd : P.underlying kt = some d) {k : AV} {kv : Value} (hk : VR φ w k kv) {es : List (AV × AV)} {ms : List MapEntry} (hes : All2 (EntR φ w) es ms) {r : Option (Nat × AV)} (e : findM P kt k es 0 = some r) :
    ∃ r', (Instr.findKey kt kv ms).run P w = .ok r' w ∧ FoundR φ w r r' := by
  unfold Instr.findKey
  simp only [Sem.run_bind, run_underlying hd, Result.andThen_ok]
  cases hn : Instr.findNow d kv ms 0 with
  | some r' => exact ⟨r', by simp, findNow_ok hd hk hes e hn⟩
  | none => exact findAsking_ok hk hes e
theorem chk_desc {n : Nat} {t : TypeId} {x : AV} (e : chkA P n t x = true) : ∃ d, P.underlying t = some d := by
  cases n with
  | zero => cases e
  | succ n =>
    unfold chkA at e
    cases hu : P.underlying t with
    | none => rw [hu] at e; cases e
    | some d => exact ⟨d, rfl⟩
theorem ents_ok (H : HR base φ h w) {m : AV} {mv : Value} (hm : VR φ w m mv) {es : List (AV × AV)} (e : entsA h m = some es) :
    ∃ ms : Array MapEntry, All2 (EntR φ w) es ms.toList ∧ ((m = .map none ∧ mv = .map none ∧ ms = #[]) ∨
      ∃ b c, m = .map (some b) ∧ mv = .map (some c.cb) ∧ φ b 0 = some c ∧ h.objs.get b = some (.map es) ∧ w.heap[c.cb]? = some (.map ms ms.size) ∧ (∀ (i : Nat) (x : MapEntry), ms[i]? = some x → x.born = i)) := by
  unfold entsA at e
  split at e
  · cases e; cases hm; exact ⟨#[], .nil, .inl ⟨rfl, rfl, rfl⟩⟩
  · rename_i b
    split at e
    case h_2 => cases e
    rename_i es' hg
    cases e
    cases hm with
    | map _ c hc =>
    obtain ⟨_, _, o, q3, q4⟩ := H.other _ _ _ _ hg rfl hc
    cases q4 with
    | map _ ms k1 k2 => exact ⟨ms, k1, .inr ⟨b, c, rfl, rfl, hc, hg, q3, k2⟩⟩
  · cases e
theorem lookup_ok (H : HR base φ h w) {t kt el : TypeId} (hu : P.underlying t = some (.map kt el)) {m k v : AV} {mv kv : Value} {ok : Bool} (hm : VR φ w m mv) (hk : VR φ w k kv) (e : lookV P h kt el ok m k = some v) :
    ∃ u, (Instr.lookup t mv kv ok).run P w = .ok u w ∧ VR φ w v u := by
  unfold lookV at e
  simp only [Option.bind_eq_some_iff] at e
  obtain ⟨es, he, e⟩ := e
  cases hc : chkK P kt k with
  | false => rw [hc] at e; cases e
  | true =>
  rw [hc, cond_true] at e
  simp only [Option.bind_eq_some_iff, Option.map_eq_some_iff] at e
  obtain ⟨r, hr, z, hz, rfl⟩ := e
  obtain ⟨ms, k1, k2⟩ := ents_ok H hm he
  obtain ⟨k', hc', hk'⟩ := chkK_at hc hk
  obtain ⟨d, hd⟩ := chk_desc hc'
  obtain ⟨r', q1, q2⟩ := findKey_ok hd hk k1 hr
  have hck := chk_ok (P := P) ms.isEmpty 5 kt k' kv hc' hk' 9995
  obtain ⟨zv, z1, z2⟩ := run_zeroT' hz
  have hget : (match mv with
      | .map none => pure #[]
      | .map (some r) => do
        let .map es _ ← getObj r | stuck "Lookup: map expected"
        pure es
      | _ => stuck "Lookup: map expected" : Sem (Array MapEntry)).run P w = .ok ms w := by
    rcases k2 with ⟨_, rfl, rfl⟩ | ⟨b, c, _, rfl, _, _, k3, _⟩
    · rfl
    · simp [getObj, Sem.run, k3]
  unfold Instr.lookup
  simp only [Sem.run_bind, run_underlying hu, Result.andThen_ok]
  have hck' : (Instr.checkKey ms.isEmpty 10000 kt kv).run P w = .ok () w := hck
  cases r with
  | none =>
    cases r' with
    | some _ => exact q2.elim
    | none =>
      refine ⟨if ok then .tuple #[zv, .bool false] else zv, ?_, ?_⟩
      · rcases k2 with ⟨_, rfl, rfl⟩ | ⟨b, c, _, rfl, _, _, k3, _⟩
        · simp only [Sem.run_pure, Result.andThen_ok, Sem.run_bind, hck', q1, z1]
        · simp only [getObj, Sem.run, k3, Sem.run_bind, Result.andThen_ok, Sem.run_pure, hck', q1, z1]
      · cases ok
        · exact z2 φ w
        · exact .tup _ _ (.cons (z2 φ w) (.cons (.bool _) .nil))
  | some p =>
    obtain ⟨i, v⟩ := p
    cases r' with
    | none => exact q2.elim
    | some p' =>
      obtain ⟨j, u⟩ := p'
      obtain ⟨_, hv⟩ := q2
      refine ⟨if ok then .tuple #[u, .bool true] else u, ?_, ?_⟩
      · rcases k2 with ⟨_, rfl, rfl⟩ | ⟨b, c, _, rfl, _, _, k3, _⟩
        · simp only [Sem.run_pure, Result.andThen_ok, Sem.run_bind, hck', q1, z1]
        · simp only [getObj, Sem.run, k3, Sem.run_bind, Result.andThen_ok, Sem.run_pure, hck', q1, z1]
      · cases ok
        · exact hv
        · exact .tup _ _ (.cons hv (.cons (.bool _) .nil))
theorem scalar1_fun {x : AV} {u v : Value} (hs : scalar1 x = true) (h1 : VR φ w x u) (h2 : VR φ w x v) : u = v := by
  cases h1 <;> cases h2 <;> first | rfl | (simp [scalar1] at hs)
theorem scalar2_val {x : AV} {u : Value} (hs : scalar2 x = true) (h1 : VR φ w x u) : ∃ y, scalar1 y = true ∧ VR φ w y u := by
  cases x with
  | vec l =>
    cases h1 with
    | vec _ y _ hl _ k => exact ⟨y, List.all_eq_true.1 hs _ (List.mem_of_getElem? hl), k⟩
  | _ => refine ⟨_, ?_, h1⟩; exact hs
theorem scalar2_fun {x : AV} {u v : Value} (hs : scalar2 x = true) (h1 : VR φ w x u) (h2 : VR φ w x v) : u = v := by
  cases h1 with
  | vec l y _ hl _ k =>
    cases h2 with
    | vec _ y' _ hl' _ k' =>
    rw [hl] at hl'
    cases hl'
    exact scalar1_fun (List.all_eq_true.1 hs _ (List.mem_of_getElem? hl)) k k'
  | bool _ => cases h2; rfl
  | int _ _ => cases h2; rfl
  | str _ => cases h2; rfl
  | _ => simp [scalar2, scalar1] at hs
theorem scalarL_fun : ∀ {l : List AV} {us vs : List Value}, l.all scalar2 = true → All2 (VR φ w) l us → All2 (VR φ w) l vs → us = vs
  | [], _, _, _, .nil, .nil => rfl
  | x :: l, _, _, hs, .cons h1 t1, .cons h2 t2 => by
    simp only [List.all_cons, Bool.and_eq_true] at hs
    rw [scalar2_fun hs.1 h1 h2, scalarL_fun hs.2 t1 t2]
theorem scalarV_fun {x : AV} {u v : Value} (hs : scalarV x = true) (h1 : VR φ w x u) (h2 : VR φ w x v) : u = v := by
  cases x with
  | agg l =>
    cases h1 with
    | agg _ us h1 =>
    cases h2 with
    | agg _ vs h2 => rw [scalarL_fun hs h1 h2]
  | _ => exact scalar2_fun (by simpa only [scalarV] using hs) h1 h2
theorem sameBits_scalar1 {x : AV} {u : Value} (hs : scalar1 x = true) (h1 : VR φ w x u) (n : Nat) : Instr.sameBits n u u = true := by
  cases h1 <;> first | (simp [scalar1] at hs; done) | (cases n <;> simp [Instr.sameBits, beq_toListBytes])
theorem sameBits_scalar2 {x : AV} {u : Value} (hs : scalar2 x = true) (h1 : VR φ w x u) (n : Nat) : Instr.sameBits n u u = true := by
  obtain ⟨y, k1, k2⟩ := scalar2_val hs h1
  exact sameBits_scalar1 k1 k2 n
theorem sameBits_scalarV {x : AV} {u : Value} (hs : scalarV x = true) (h1 : VR φ w x u) (n : Nat) : Instr.sameBits (n + 1) u u = true := by
  cases x with
  | agg l =>
    cases h1 with
    | agg _ us h1 =>
      simp only [Instr.sameBits, beq_self_eq_true, Bool.true_and]
      have key : ∀ {l : List AV} {us : List Value}, l.all scalar2 = true → All2 (VR φ w) l us → ((us.zip us).all fun (x, y) => Instr.sameBits n x y) = true := by
        intro l us hs h1
        induction h1 with
        | nil => rfl
        | cons h t ih =>
          simp only [List.all_cons, Bool.and_eq_true] at hs
          simp only [List.zip_cons_cons, List.all_cons, Bool.and_eq_true]
          exact ⟨sameBits_scalar2 hs.1 h n, ih hs.2⟩
      exact key hs h1
  | _ => exact sameBits_scalar2 (by simpa only [scalarV] using hs) h1 (n + 1)
theorem All2.modify {α β : Type} {R : α → β → Prop} : ∀ {l : List α} {m : List β}, All2 R l m → ∀ (i : Nat) (f : α → α) (g : β → β), (∀ a b, l[i]? = some a → m[i]? = some b → R (f a) (g b)) → All2 R (l.modify i f) (m.modify i g)
  | _, _, .nil, i, f, g, _ => by simp; exact .nil
  | _, _, .cons h t, 0, f, g, k => by simpa using All2.cons (k _ _ rfl rfl) t
  | _, _, .cons h t, i + 1, f, g, k => by
    simp only [List.modify_succ_cons]
    exact .cons h (t.modify i f g fun a b h1 h2 => k a b (by simpa using h1) (by simpa using h2))
theorem putE_modify (k v : AV) : ∀ (i : Nat) (es : List (AV × AV)), putE k v i es = es.modify i fun _ => (k, v)
  | i, [] => by cases i <;> rfl
  | 0, e :: es => rfl
  | i + 1, e :: es => by simp [putE, putE_modify k v i es]
theorem findM_at {kt : TypeId} {k : AV} : ∀ {es : List (AV × AV)} {i j : Nat} {v : AV}, findM P kt k es i = some (some (j, v)) → i ≤ j ∧ ∃ e, es[j - i]? = some e
  | [], i, j, v, e => by cases e
  | x :: es, i, j, v, e => by
    unfold findM at e
    simp only [Option.bind_eq_some_iff] at e
    obtain ⟨b, _, e⟩ := e
    cases b with
    | true =>
      simp only [if_true, Option.some.injEq, Prod.mk.injEq] at e
      obtain ⟨rfl, _⟩ := e
      exact ⟨Nat.le_refl _, x, by simp⟩
    | false =>
      simp only [Bool.false_eq_true, if_false] at e
      obtain ⟨h1, y, h2⟩ := findM_at e
      exact ⟨by omega, y, by rw [show j - i = (j - (i + 1)) + 1 by omega]; simpa using h2⟩
theorem clear_ok (H : HR base φ h w) {ts : Array TypeId} {t ty : TypeId} (h0 : ts[0]? = some t) {x : AV} {xv : Value} (hx : VR φ w x xv) {r : ANext} (e : clearA P t h x = some r) :
    ∃ v h' φ' w' u, r = .val v h' ∧ (Builtin.clear_ ts ty #[xv]).run P w = .ok u w' ∧ Step base φ h w φ' h' w' ∧ VR φ' w' v u := by
  unfold clearA at e
  split at e
  case h_2 => cases e
  rename_i el hu
  split at e
  · cases e
    cases hx
    exact ⟨_, _, φ, w, .tuple #[], rfl, by simp [Builtin.clear_, h0, run_underlying hu], Step.refl H, .tup [] [] .nil⟩
  · rename_i a n room sz
    simp only [Option.bind_eq_some_iff] at e
    obtain ⟨size, hs, z, hz, e⟩ := e
    split at e
    case isFalse => cases e
    rename_i hc
    simp only [Option.map_eq_some_iff] at e
    obtain ⟨h', hst, rfl⟩ := e
    cases hx with
    | slice _ ad _ _ _ cap g1 g2 g3 g4 g5 =>
    obtain ⟨zv, z1, z2⟩ := run_zeroT' hz
    by_cases hn : n = 0
    · subst hn
      simp only [reps, storeN, Option.some.injEq] at hst
      subst hst
      exact ⟨_, _, φ, w, .tuple #[], rfl, by simp [Builtin.clear_, h0, run_underlying hu], Step.refl H, .tup [] [] .nil⟩
    · have g5' := g5.resolve_left (by omega)
      obtain ⟨w', q1, q2, _⟩ := storeN_cells (P := P) H g5'.1 (rep_zero (z2 φ w) n) 0 hst
      refine ⟨_, _, φ, w', .tuple #[], rfl, ?_, q2, .tup [] [] .nil⟩
      obtain ⟨n, rfl⟩ : ∃ m, n = m + 1 := ⟨n - 1, by omega⟩
      have q1' : (storeCells ad (Builtin.zeroCells zv.cells (n + 1)).toList).run P w = .ok () w' := q1
      simp [Builtin.clear_, h0, run_underlying hu, z1, q1']
  · cases e
theorem makeMap_ok (H : HR base φ h w) {t : TypeId} {r : ANext} (e : (newObj h (.map [])).map mapOf = some r) :
    ∃ v h' φ' w' u, r = .val v h' ∧ (Instr.makeMap t none).run P w = .ok u w' ∧ Step base φ h w φ' h' w' ∧ VR φ' w' v u := by
  simp only [Option.map_eq_some_iff, newObj, Option.bind_eq_some_iff, Option.some.injEq] at e
  obtain ⟨r', ⟨os, ho, rfl⟩, rfl⟩ := e
  have st := new_step H (.map []) (.map #[] 0) os ho 1 (.inr ⟨rfl, .map [] #[] .nil (by simp)⟩)
  refine ⟨_, _, _, _, .map (some w.heap.size), rfl, ?_, st, ?_⟩
  · simp [Instr.makeMap]
  · exact .map h.next ⟨w.heap.size, 0, 0, 1⟩ (addE_same _ _ _ _)
theorem update_ok (H : HR base φ h w) {t kt el : TypeId} (hu : P.underlying t = some (.map kt el)) {m k v : AV} {mv kv vv : Value} {h' : Heap} (hm : VR φ w m mv) (hk : VR φ w k kv) (hv : VR φ w v vv) (e : updV P h kt m k v = some h') :
    ∃ w', (Instr.mapUpdate t mv kv vv).run P w = .ok () w' ∧ Step base φ h w φ h' w' := by
  unfold updV at e
  split at e
  case h_2 => cases e
  rename_i b
  split at e
  case h_2 => cases e
  rename_i es hg
  cases hc : chkK P kt k && scalarV k with
  | false => rw [hc] at e; cases e
  | true =>
  rw [hc, cond_true] at e
  simp only [Bool.and_eq_true] at hc
  obtain ⟨hc1, hc2⟩ := hc
  simp only [Option.bind_eq_some_iff, Option.map_eq_some_iff] at e
  obtain ⟨r, hr, es', hes', os, ho, rfl⟩ := e
  cases hm with
  | map _ c hcc =>
  obtain ⟨_, _, o, q3, q4⟩ := H.other _ _ _ _ hg rfl hcc
  cases q4 with
  | map _ ms k1 k2 =>
  obtain ⟨k', hc', hk'⟩ := chkK_at hc1 hk
  obtain ⟨d, hd⟩ := chk_desc hc'
  obtain ⟨r', f1, f2⟩ := findKey_ok hd hk k1 hr
  have hck : (Instr.checkKey false 10000 kt kv).run P w = .ok () w := chk_ok (P := P) false 5 kt k' kv hc' hk' 9995
  cases r with
  | none =>
    cases r' with
    | some _ => exact f2.elim
    | none =>
      simp only [Option.some.injEq] at hes'
      subst hes'
      refine ⟨setBlock w c.cb (.map (ms.push { key := kv, val := vv, born := ms.size }) (ms.size + 1)), ?_, ?_⟩
      · simp only [Instr.mapUpdate, Sem.run_bind, run_underlying hu, getObj, Sem.run, q3, Result.andThen_ok, hck, f1, setObj, Sem.run_pure]
        rfl
      · refine obj_step H hg rfl (by simp) hcc ho rfl ?_
        have := ObjR.map (φ := φ) (w := w) (es ++ [(k, v)]) (ms.push { key := kv, val := vv, born := ms.size }) (by rw [Array.toList_push]; exact k1.append (.cons ⟨hk, hv⟩ .nil)) (by
          intro i x hx
          rw [Array.getElem?_push] at hx
          split at hx
          · rename_i q; cases hx; exact q.symm
          · exact k2 i x hx)
        rwa [Array.size_push] at this
  | some p =>
    obtain ⟨i, v0⟩ := p
    cases r' with
    | none => exact f2.elim
    | some p' =>
      obtain ⟨j, u0⟩ := p'
      obtain ⟨rfl, _⟩ := f2
      simp only at hes'
      split at hes'
      case h_2 => cases hes'
      rename_i e0 he0
      split at hes'
      case isFalse => cases hes'
      rename_i hsame
      cases hes'
      have hke := sameV_eq hsame
      obtain ⟨x0, hx0, hx1⟩ := k1.get i _ he0
      have hx0' : ms[i]? = some x0 := by simpa using hx0
      have hkv : x0.key = kv := scalarV_fun hc2 (by rw [hke]; exact hx1.key) hk
      have hstay : (Instr.keyThatStays (((ms[i]?).map (·.key)).getD kv) kv).run P w = .ok kv w := by
        rw [hx0']
        simp only [Option.map_some, Option.getD_some, hkv]
        unfold Instr.keyThatStays
        rw [if_pos (sameBits_scalarV hc2 hk 9999)]
        rfl
      refine ⟨setBlock w c.cb (.map (ms.modify i fun e => { e with key := kv, val := vv }) ms.size), ?_, ?_⟩
      · simp only [Instr.mapUpdate, Sem.run_bind, run_underlying hu, getObj, Sem.run, q3, Result.andThen_ok, hck, f1, hstay, setObj, Sem.run_pure]
        rfl
      · refine obj_step H hg rfl (by simp) hcc ho rfl ?_
        have := ObjR.map (φ := φ) (w := w) (putE k v i es) (ms.modify i fun e => { e with key := kv, val := vv }) (by
          rw [putE_modify, Array.toList_modify]
          exact k1.modify i _ _ fun a b h1 h2 => ⟨hk, hv⟩) (by
          intro n x hx
          rw [Array.getElem?_modify] at hx
          split at hx
          · rename_i q
            simp only [Option.map_eq_some_iff] at hx
            obtain ⟨y, hy, rfl⟩ := hx
            exact k2 n y hy
          · exact k2 n x hx)
        rwa [Array.size_modify] at this
end Go.Vai
/- The abstract machine: one operation. -/
namespace Go.Vai
set_option linter.unusedVariables false
set_option linter.unusedSimpArgs false
set_option linter.unusedSectionVars false
variable [Lane]
variable {P : Program} {base : Nat} {φ φ' φ'' : Emb} {h h' h'' : Heap} {w w' w'' : World}

/-- what the model's operation answers, told by the machine's -/
def NextR (P : Program) (base : Nat) (φ : Emb) (h : Heap) (w : World) (r : ANext) (res : Result Next) : Prop :=
  match r with
  | .val v h' => ∃ φ' w' u, res = .ok (.value u) w' ∧ Step base φ h w φ' h' w' ∧ VR φ' w' v u
  | .skip h' => ∃ φ' w', res = .ok .skip w' ∧ Step base φ h w φ' h' w'
  | .enter f xs => ∃ us : Array Value, res = (callFunc f us).run P w ∧ All2 (VR φ w) xs us.toList

theorem pure_R (H : HR base φ h w) {o : Option AV} {r : ANext} (e : pureO h o = some r) {s : Sem Value} (hk : ∀ v, o = some v → ∃ u, s.run P w = .ok u w ∧ VR φ w v u) :
    NextR P base φ h w r ((do pure (.value (← s)) : Sem Next).run P w) := by
  unfold pureO at e
  simp only [Option.map_eq_some_iff] at e
  obtain ⟨v, hv, rfl⟩ := e
  obtain ⟨u, h1, h2⟩ := hk v hv
  exact ⟨φ, w, u, by simp only [Sem.run_bind, h1, Result.andThen_ok, Sem.run_pure], Step.refl H, h2⟩
theorem pair_R {o : Option (AV × Heap)} {r : ANext} (e : pairO o = some r) {s : Sem Value} (hk : ∀ v, o = some v → ∃ φ' w' u, s.run P w = .ok u w' ∧ Step base φ h w φ' v.2 w' ∧ VR φ' w' v.1 u) :
    NextR P base φ h w r ((do pure (.value (← s)) : Sem Next).run P w) := by
  unfold pairO at e
  simp only [Option.map_eq_some_iff] at e
  obtain ⟨⟨v, h'⟩, hv, rfl⟩ := e
  obtain ⟨φ', w', u, h1, h2, h3⟩ := hk _ hv
  exact ⟨φ', w', u, by simp only [Sem.run_bind, h1, Result.andThen_ok, Sem.run_pure], h2, h3⟩
theorem val_R {r : ANext} {s : Sem Value} (hk : ∃ v h' φ' w' u, r = .val v h' ∧ s.run P w = .ok u w' ∧ Step base φ h w φ' h' w' ∧ VR φ' w' v u) :
    NextR P base φ h w r ((do pure (.value (← s)) : Sem Next).run P w) := by
  obtain ⟨v, h', φ', w', u, rfl, h1, h2, h3⟩ := hk
  exact ⟨φ', w', u, by simp only [Sem.run_bind, h1, Result.andThen_ok, Sem.run_pure], h2, h3⟩
theorem opt_R {a : Act} {ρ : Rho} (hρ : ∀ x v, ρ x = some v → VR φ w v (a.eval x)) (x : Option Operand) {l : Option AV} (e : optO ρ x = some l) : OptR φ w l (x.map a.eval) := by
  unfold optO at e
  cases x with
  | none => cases e; first | exact .none | trivial
  | some x =>
    simp only [Option.map_eq_some_iff] at e
    obtain ⟨v, hv, rfl⟩ := e
    first | exact .some (hρ _ _ hv) | exact hρ _ _ hv
theorem args_all2 {a : Act} {ρ : Rho} (hρ : ∀ x v, ρ x = some v → VR φ w v (a.eval x)) (xs : Array Operand) {l : List AV} (e : mapO ρ xs.toList = some l) : All2 (VR φ w) l (xs.map a.eval).toList := by
  rw [Array.toList_map]
  exact mapO_all2 _ _ (fun x _ v hv => hρ x v hv) e
theorem len_ok {ts : Array TypeId} {t ty : TypeId} (h0 : ts[0]? = some t) {x v : AV} {xv : Value} (hx : VR φ w x xv) (e : lenT P t x = some v) : ∃ u, (Builtin.len_ ts ty #[xv]).run P w = .ok u w ∧ VR φ w v u := by
  unfold lenT at e
  split at e
  · rename_i hu
    split at e
    · cases e; cases hx
      refine ⟨_, ?_, .int .i64 _⟩
      simp only [Builtin.len_, h0, List.getElem?_toArray, List.getElem?_cons_zero, Sem.run_bind, run_underlying hu, Result.andThen_ok, Sem.run_pure]; rfl
    · cases e
  · rename_i hu
    split at e
    · cases e
      cases hx <;> exact ⟨_, by simp [Builtin.len_, h0, run_underlying hu, goInt], .int .i64 _⟩
    · cases e
  · cases e
theorem one_arr {x : AV} {as : Array Value} (k : All2 (VR φ w) [x] as.toList) : ∃ v, as = #[v] ∧ VR φ w x v := by
  obtain ⟨l⟩ := as
  cases k with
  | cons h t => cases t; exact ⟨_, rfl, h⟩
theorem two_arr {x y : AV} {as : Array Value} (k : All2 (VR φ w) [x, y] as.toList) : ∃ u v, as = #[u, v] ∧ VR φ w x u ∧ VR φ w y v := by
  obtain ⟨l⟩ := as
  cases k with
  | cons h t => cases t with
    | cons h' t => cases t; exact ⟨_, _, rfl, h, h'⟩
theorem eqA_vecR (t : TypeId) (p : AV) (l : List AV) : eqA P t p (.vec l) = none := by unfold eqA; split <;> simp_all
theorem eqA_vecL (t : TypeId) (p : AV) (l : List AV) : eqA P t (.vec l) p = none := by unfold eqA; split <;> simp_all
theorem binT_vecR (op : BinOp) (t : TypeId) (p : AV) (l : List AV) : binT P op t p (.vec l) = none := by
  have e := eqA_vecR (P := P) t p l
  cases op <;> simp only [binT] <;> cases p <;> simp_all [addA, int2, eqlA, neqA]
theorem binT_vecL (op : BinOp) (t : TypeId) (p : AV) (l : List AV) : binT P op t (.vec l) p = none := by
  have e := eqA_vecL (P := P) t p l
  cases op <;> simp only [binT] <;> simp_all [addA, int2, eqlA, neqA]
theorem guard_ok {op : BinOp} {t : TypeId} {x y : Operand} {p q v : AV} {pv qv : Value} (hp : VR φ w p pv) (hq : VR φ w q qv) (hn : nilOk (isConstO x || isConstO y) p q = true) (e : binT P op t p q = some v) : (eqGuard op t x y pv qv).run P w = .ok () w := by
  by_cases hvp : ∃ l, p = .vec l
  · obtain ⟨l, rfl⟩ := hvp; rw [binT_vecL] at e; cases e
  by_cases hvq : ∃ l, q = .vec l
  · obtain ⟨l, rfl⟩ := hvq; rw [binT_vecR] at e; cases e
  by_cases ha : (∃ cs cs', p = .agg cs ∧ q = .agg cs')
  · obtain ⟨cs, cs', rfl, rfl⟩ := ha
    exfalso
    unfold binT at e
    have ea : eqA P t (.agg cs) (.agg cs') = none := by unfold eqA; split <;> simp_all
    split at e <;> simp [addA, int2, eqlA, neqA, ea] at e
  · unfold eqGuard
    cases hp <;> cases hq <;> first | (exfalso; exact ha ⟨_, _, rfl, rfl⟩) | (exfalso; exact hvp ⟨_, rfl⟩) | (exfalso; exact hvq ⟨_, rfl⟩) | (split <;> first | (simp; done) | (simp [undef]; done)) | (cases x <;> cases y <;> simp [nilOk, isConstO] at hn ⊢)
theorem clear_R (H : HR base φ h w) {ts : Array TypeId} {t ty : TypeId} {cs : Array Bool} (h0 : ts[0]? = some t) {x : AV} {xv : Value} (hx : VR φ w x xv) {r : ANext} (e : clearA P t h x = some r) :
    NextR P base φ h w r ((builtin .clear ts ty cs #[xv]).run P w) := val_R (clear_ok (ty := ty) H h0 hx e)
theorem builtin_ok (H : HR base φ h w) {b : Builtin} {ts : Array TypeId} {ty : TypeId} {cs : Array Bool} {xs : List AV} {as : Array Value} (ha : All2 (VR φ w) xs as.toList) {r : ANext} (e : builtinA P b ts h xs = some r) :
    NextR P base φ h w r ((builtin b ts ty cs as).run P w) := by
  unfold builtinA at e
  split at e
  · unfold one1 at e
    split at e
    case h_2 => cases e
    simp only [Option.bind_eq_some_iff] at e
    obtain ⟨t, h0, e⟩ := e
    obtain ⟨v, rfl, hv⟩ := one_arr ha
    exact pure_R H e fun z hz => len_ok h0 hv hz
  · unfold two2 at e
    split at e
    case h_2 => cases e
    simp only [Option.bind_eq_some_iff] at e
    obtain ⟨t, h0, u, h1, e⟩ := e
    split at e
    case isFalse => cases e
    rename_i hm
    obtain ⟨v, v', rfl, hv, hv'⟩ := two_arr ha
    exact pair_R e fun z hz => append_ok H h0 h1 hm hv hv' hz
  · unfold two2 at e
    split at e
    case h_2 => cases e
    simp only [Option.bind_eq_some_iff] at e
    obtain ⟨t, h0, e⟩ := e
    obtain ⟨v, v', rfl, hv, hv'⟩ := two_arr ha
    exact pair_R e fun z hz => by
      obtain ⟨w', u, q1, q2, q3⟩ := copy_ok (P := P) (ty := ty) H h0 hv hv' hz
      exact ⟨φ, w', u, q1, q2, q3⟩
  · unfold one1 at e
    split at e
    case h_2 => cases e
    simp only [Option.bind_eq_some_iff] at e
    obtain ⟨t, h0, e⟩ := e
    obtain ⟨v, rfl, hv⟩ := one_arr ha
    exact clear_R H h0 hv e
  · unfold two2 at e
    split at e
    case h_2 => cases e
    obtain ⟨v, v', rfl, hv, hv'⟩ := two_arr ha
    exact pure_R H e fun z hz => by
      unfold int2 at hz
      split at hz
      case h_2 => cases hz
      split at hz
      case h_2 => cases hz
      cases hv; cases hv'
      split at hz
      case isFalse => cases hz
      cases hz
      exact ⟨_, by simp [Builtin.min_, Builtin.min2], .int _ _⟩
  · unfold two2 at e
    split at e
    case h_2 => cases e
    obtain ⟨v, v', rfl, hv, hv'⟩ := two_arr ha
    exact pure_R H e fun z hz => by
      unfold int2 at hz
      split at hz
      case h_2 => cases hz
      split at hz
      case h_2 => cases hz
      cases hv; cases hv'
      split at hz
      case isFalse => cases hz
      cases hz
      exact ⟨_, by simp [Builtin.max_, Builtin.max2], .int _ _⟩
  · cases e
theorem op_ok0 (H : HR base φ h w) {a : Act} {ρ : Rho} (hρ : ∀ x v, ρ x = some v → VR φ w v (a.eval x)) {o : Oper} {r : ANext} (e : aop0 P ρ h o = some r) :
    NextR P base φ h w r ((execOp a.eval o).run P w) := by
  unfold aop0 opA at e
  unfold execOp
  cases ho : o.op <;> simp only [ho] at e ⊢ <;> try (exact absurd e (by simp [oNone]))
  case move x =>
    unfold oMove pureO at e
    simp only [Option.map_eq_some_iff] at e
    obtain ⟨v, hv, rfl⟩ := e
    exact ⟨φ, w, _, rfl, Step.refl H, hρ _ _ hv⟩
  case assign x =>
    unfold oMove pureO at e
    simp only [Option.map_eq_some_iff] at e
    obtain ⟨v, hv, rfl⟩ := e
    exact ⟨φ, w, _, rfl, Step.refl H, hρ _ _ hv⟩
  case pick c x y =>
    unfold oPick at e
    simp only [Option.bind_eq_some_iff] at e
    obtain ⟨b, hb0, e⟩ := e
    have hb := hρ _ _ hb0
    clear hb0
    unfold pickV at e
    split at e
    case h_2 => cases e
    rename_i t
    unfold pureO at e
    simp only [Option.map_eq_some_iff] at e
    obtain ⟨v, hv, rfl⟩ := e
    have hv := hρ _ _ hv
    generalize a.eval c = cv at hb ⊢
    cases hb
    refine ⟨φ, w, _, ?_, Step.refl H, hv⟩
    cases t <;> rfl
  case build t parts =>
    obtain ⟨v, u, h1, h2, h3⟩ := build_ok hρ e
    exact val_R ⟨v, h, φ, w, u, h1, h2, Step.refl H, h3⟩
  case buildSlice t len parts => exact val_R (buildSlice_ok H hρ e)
  case load t x =>
    unfold oLoad at e
    simp only [Option.bind_eq_some_iff] at e
    obtain ⟨p, hp, e⟩ := e
    exact pure_R H e fun v hv => loadAt_ok H (hρ _ _ hp) hv
  case store t x y =>
    unfold oStore at e
    simp only [Option.bind_eq_some_iff, Option.map_eq_some_iff] at e
    obtain ⟨p, hp, v, hv, h', hs, rfl⟩ := e
    obtain ⟨w', h1, h2, _⟩ := storeAt_ok (P := P) H (hρ _ _ hp) (hρ _ _ hv) hs
    exact ⟨φ, w', by simp only [Sem.run_bind, h1, Result.andThen_ok, Sem.run_pure], h2⟩
  case convert s d x =>
    unfold oConvert at e
    simp only [Option.bind_eq_some_iff] at e
    obtain ⟨p, hp, e⟩ := e
    exact pair_R e fun v hv => convert_ok H (hρ _ _ hp) hv
  case unOp op t x =>
    unfold oUn at e
    simp only [Option.bind_eq_some_iff] at e
    obtain ⟨p, hp, e⟩ := e
    exact pure_R H e fun v hv => unA_ok (hρ _ _ hp) hv
  case fieldAddr t x f =>
    unfold oFieldAddr at e
    simp only [Option.bind_eq_some_iff] at e
    obtain ⟨p, hp, e⟩ := e
    exact pure_R H e fun v hv => fieldAddrA_ok (hρ _ _ hp) hv
  case field t x f =>
    unfold oField at e
    simp only [Option.bind_eq_some_iff] at e
    obtain ⟨p, hp, e⟩ := e
    exact pure_R H e fun v hv => fieldA_ok (hρ _ _ hp) hv
  case indexAddr t x i =>
    unfold oIndexAddr at e
    simp only [Option.bind_eq_some_iff] at e
    obtain ⟨p, hp, q, hq, e⟩ := e
    exact pure_R H e fun v hv => indexAddrA_ok (hρ _ _ hp) (hρ _ _ hq) hv
  case index t x i =>
    unfold oIndex at e
    simp only [Option.bind_eq_some_iff] at e
    obtain ⟨p, hp, q, hq, e⟩ := e
    exact pure_R H e fun v hv => indexA_ok (hρ _ _ hp) (hρ _ _ hq) hv
  case range t x =>
    unfold oRange at e
    simp only [Option.bind_eq_some_iff] at e
    obtain ⟨p, hp, e⟩ := e
    exact val_R (rangeV_ok H (hρ _ _ hp) e)
  case makeSlice t l c =>
    unfold oMakeSlice at e
    split at e
    case h_2 => cases e
    rename_i el hu
    simp only [Option.bind_eq_some_iff] at e
    obtain ⟨p, hp, q, hq, e⟩ := e
    exact val_R (makeSlice_ok H hu (hρ _ _ hp) (hρ _ _ hq) e)
  case slice t x lo hi mx =>
    unfold oSlice at e
    cases mx with
    | some _ => cases e
    | none =>
    simp only [Option.bind_eq_some_iff] at e
    obtain ⟨p, hp, l1, hl1, l2, hl2, e⟩ := e
    exact pure_R H e fun v hv => sliceA_ok (hρ _ _ hp) (opt_R hρ lo hl1) (opt_R hρ hi hl2) hv
  case next x st =>
    unfold oNext at e
    cases st with
    | false =>
      simp only [cond_false, Option.bind_eq_some_iff] at e
      obtain ⟨p, hp, e⟩ := e
      exact pair_R e fun v hv => by
        obtain ⟨w', u, q1, q2, q3⟩ := nextM_ok (P := P) (ty := o.type) H (hρ _ _ hp) hv
        exact ⟨φ, w', u, q1, q2, q3⟩
    | true =>
    simp only [cond_true, Option.bind_eq_some_iff] at e
    obtain ⟨p, hp, e⟩ := e
    exact pair_R e fun v hv => by
      obtain ⟨w', u, q1, q2, q3⟩ := nextA_ok (P := P) (ty := o.type) H (hρ _ _ hp) hv
      exact ⟨φ, w', u, q1, q2, q3⟩
  case binOp op t x y u =>
    unfold oBin at e
    simp only [Option.bind_eq_some_iff] at e
    obtain ⟨p, hp, q, hq, e⟩ := e
    exact pure_R H e fun v hv => by
      cases hn : nilOk (isConstO x || isConstO y) p q with
      | false => rw [hn] at hv; cases hv
      | true =>
      rw [hn, cond_true] at hv
      obtain ⟨u, h1, h2⟩ := binT_ok (P := P) (hρ _ _ hp) (hρ _ _ hq) hv
      have hg : (eqGuard op t x y (a.eval x) (a.eval y)).run P w = .ok () w := by
        exact guard_ok (hρ _ _ hp) (hρ _ _ hq) hn hv
      exact ⟨u, by simp only [Sem.run_bind, hg, Result.andThen_ok, h1], h2⟩
  case extract x i =>
    unfold oExtract at e
    simp only [Option.bind_eq_some_iff] at e
    obtain ⟨p, hp0, e⟩ := e
    have hp := hρ _ _ hp0
    clear hp0
    unfold extV at e
    split at e
    case h_2 => cases e
    generalize a.eval x = xv at hp ⊢
    cases hp with
    | tup cs vs hcs =>
    exact pure_R H e fun v hv => by
      obtain ⟨u, q1, q2⟩ := hcs.get _ _ hv
      refine ⟨u, ?_, q2⟩
      simp [Instr.extract, q1]
  case nilCheck x =>
    unfold oNilCheck at e
    simp only [Option.bind_eq_some_iff] at e
    obtain ⟨p, hp0, e⟩ := e
    have hp := hρ _ _ hp0
    clear hp0
    unfold nilV at e
    generalize a.eval x = xv at hp ⊢
    split at e
    · cases e
      cases hp with
      | ptr _ ad hl => exact ⟨φ, w, _, rfl, Step.refl H, .ptr _ _ hl⟩
    · cases e
      cases hp with
      | func f cs vs hcs => exact ⟨φ, w, _, rfl, Step.refl H, .func _ _ _ hcs⟩
    · cases e
  case alloc el =>
    unfold oAlloc at e
    simp only [Option.bind_eq_some_iff] at e
    obtain ⟨z, hz, e⟩ := e
    obtain ⟨zv, z1, z2⟩ := run_zeroT hz w
    obtain ⟨v, h', rfl, φ', w', ad, q1, q2, q3⟩ := newVal_ok (P := P) (t := el) H (z2 φ w) e
    refine val_R ⟨v, h', φ', w', .pointer (some ad), rfl, ?_, q2, q3⟩
    simp only [Instr.alloc, Sem.run_bind, z1, q1, Result.andThen_ok, Sem.run_pure]
  case box el x =>
    unfold oBox at e
    simp only [Option.bind_eq_some_iff] at e
    obtain ⟨z, hz, e⟩ := e
    obtain ⟨v, h', rfl, φ', w', ad, q1, q2, q3⟩ := newVal_ok (P := P) (t := el) H (hρ _ _ hz) e
    refine val_R ⟨v, h', φ', w', .pointer (some ad), rfl, ?_, q2, q3⟩
    simp only [Instr.box, Sem.run_bind, q1, Result.andThen_ok, Sem.run_pure]
  case makeFunc fn first caps =>
    unfold oMakeFunc at e
    split at e
    case h_2 => cases e
    rename_i f
    split at e
    case isFalse => cases e
    rename_i hf
    simp only [Option.bind_eq_some_iff, Option.some.injEq] at e
    obtain ⟨cs, hcs, rfl⟩ := e
    have : first = #[] := by simpa using hf
    subst this
    exact ⟨φ, w, .func (.func f) #[] (caps.map a.eval), by simp [Instr.makeFunc], Step.refl H, .func f cs _ (by have := args_all2 hρ caps hcs; exact this)⟩
  case entry x =>
    unfold oEntry at e
    simp only [Option.bind_eq_some_iff] at e
    obtain ⟨p, hp, e⟩ := e
    exact pure_R H e fun v hv => entryM_ok H (hρ _ _ hp) hv
  case makeMap t r =>
    unfold oMakeMap at e
    cases r with
    | some _ => cases e
    | none => exact val_R (makeMap_ok (t := t) H e)
  case lookup t x i ok =>
    unfold oLookup at e
    split at e
    case h_2 => cases e
    rename_i kt el hu
    simp only [Option.bind_eq_some_iff] at e
    obtain ⟨m, hm, k, hk, e⟩ := e
    exact pure_R H e fun v hv => lookup_ok H hu (hρ _ _ hm) (hρ _ _ hk) hv
  case mapUpdate t m k x =>
    unfold oMapUpdate at e
    split at e
    case h_2 => cases e
    rename_i kt el hu
    simp only [Option.bind_eq_some_iff, Option.map_eq_some_iff] at e
    obtain ⟨mv, hm, kv, hk, v, hv, h', hs, rfl⟩ := e
    obtain ⟨w', h1, h2⟩ := update_ok (P := P) H hu (hρ _ _ hm) (hρ _ _ hk) (hρ _ _ hv) hs
    exact ⟨φ, w', by simp only [Sem.run_bind, h1, Result.andThen_ok, Sem.run_pure], h2⟩
  case insert t m k x =>
    unfold oMapUpdate at e
    split at e
    case h_2 => cases e
    rename_i kt el hu
    simp only [Option.bind_eq_some_iff, Option.map_eq_some_iff] at e
    obtain ⟨mv, hm, kv, hk, v, hv, h', hs, rfl⟩ := e
    obtain ⟨w', h1, h2⟩ := update_ok (P := P) H hu (hρ _ _ hm) (hρ _ _ hk) (hρ _ _ hv) hs
    exact ⟨φ, w', by simp only [Sem.run_bind, h1, Result.andThen_ok, Sem.run_pure], h2⟩
  case call c =>
    unfold oCall at e
    simp only [Option.bind_eq_some_iff] at e
    obtain ⟨xs, hxs, e⟩ := e
    have hargs := args_all2 hρ c.args hxs
    simp only [resolve]
    generalize c.args.map a.eval = as at hargs ⊢
    split at e
    · rename_i b hc
      simp only [hc, Sem.run_bind, Sem.run_pure, Result.andThen_ok, invoke]
      exact builtin_ok H hargs e
    · rename_i x hc
      simp only [Option.bind_eq_some_iff] at e
      obtain ⟨f, hf, e⟩ := e
      have hfv := hρ _ _ hf
      clear hf
      unfold enterV at e
      split at e
      case h_2 => cases e
      rename_i g caps
      cases e
      simp only [hc, Sem.run_bind]
      generalize a.eval x = fv at hfv ⊢
      cases hfv with
      | func _ _ vs hcs =>
      refine ⟨as ++ ⟨vs⟩, ?_, ?_⟩
      · simp [Deferred.ofValue, invoke]
      · rw [Array.toList_append]; exact hargs.append hcs
    · cases e
end Go.Vai
/- The abstract machine: kinds of operations. -/
namespace Go.Vai
set_option linter.unusedVariables false
set_option linter.unusedSimpArgs false
set_option linter.unusedSectionVars false
variable [Lane]
variable {P : Program} {base : Nat} {φ φ' φ'' : Emb} {h h' h'' : Heap} {w w' w'' : World}
/-! kinds of operations -/
theorem pureO_free {h : Heap} {o : Option AV} {r : ANext} (e : pureO h o = some r) : ∃ v, r = .val v h ∧ ∀ h', pureO h' o = some (.val v h') := by
  unfold pureO at *
  simp only [Option.map_eq_some_iff] at e
  obtain ⟨v, rfl, rfl⟩ := e
  exact ⟨v, rfl, fun _ => rfl⟩
theorem pureO_bind {α : Type} {h : Heap} {x : Option α} {f : α → Option AV} {r : ANext} (e : (x.bind fun a => pureO h (f a)) = some r) :
    ∃ v, r = .val v h ∧ ∀ h', (x.bind fun a => pureO h' (f a)) = some (.val v h') := by
  cases x with
  | none => cases e
  | some a => exact pureO_free e
theorem free_ok0 {ρ : Rho} {o : Oper} {r : ANext} (hk : kindA P o = 0) (e : aop0 P ρ h o = some r) : ∃ v, r = .val v h ∧ ∀ h', aop0 P ρ h' o = some (.val v h') := by
  unfold kindA at hk
  unfold aop0 opA at *
  cases ho : o.op <;> simp only [ho] at hk e ⊢ <;> try (exact absurd hk (by decide))
  case move x => exact pureO_free e
  case assign x => exact pureO_free e
  case pick c a b =>
    unfold oPick pickV at *
    cases hc : ρ c with
    | none => rw [hc] at e; cases e
    | some t =>
      rw [hc] at e
      simp only [Option.bind_some] at *
      split at e
      · exact pureO_free e
      · cases e
  case binOp op t x y u =>
    unfold oBin at *
    cases hx : ρ x with
    | none => rw [hx] at e; cases e
    | some a =>
      rw [hx] at e; simp only [Option.bind_some] at *
      exact pureO_bind e
  case unOp op t x => exact pureO_bind e
  case field t x f => exact pureO_bind e
  case fieldAddr t x f => exact pureO_bind e
  case indexAddr t x i =>
    unfold oIndexAddr at *
    cases hx : ρ x with
    | none => rw [hx] at e; cases e
    | some a =>
      rw [hx] at e; simp only [Option.bind_some] at *
      exact pureO_bind e
  case index t x i =>
    unfold oIndex at *
    cases hx : ρ x with
    | none => rw [hx] at e; cases e
    | some a =>
      rw [hx] at e; simp only [Option.bind_some] at *
      exact pureO_bind e
  case slice t x lo hi mx =>
    unfold oSlice at *
    cases mx with
    | some _ => cases e
    | none =>
      simp only at *
      cases hx : ρ x with
      | none => rw [hx] at e; cases e
      | some a =>
        rw [hx] at e; simp only [Option.bind_some] at *
        cases hl : optO ρ lo with
        | none => rw [hl] at e; cases e
        | some l =>
          rw [hl] at e; simp only [Option.bind_some] at *
          exact pureO_bind e
  case extract x i =>
    unfold oExtract extV at *
    cases hx : ρ x with
    | none => rw [hx] at e; cases e
    | some a =>
      rw [hx] at e; simp only [Option.bind_some] at *
      split at e
      · exact pureO_free e
      · cases e
  case nilCheck x =>
    unfold oNilCheck nilV at *
    cases hx : ρ x with
    | none => rw [hx] at e; cases e
    | some a =>
      rw [hx] at e; simp only [Option.bind_some] at *
      split at e
      · cases e; exact ⟨_, rfl, fun _ => rfl⟩
      · cases e; exact ⟨_, rfl, fun _ => rfl⟩
      · cases e
  case build t ps =>
    unfold oBuild at *
    cases hz : zeroT P t with
    | none => rw [hz] at e; cases e
    | some z =>
      rw [hz] at e; simp only [Option.bind_some] at *
      cases hp : placesT P t with
      | none => rw [hp] at e; cases e
      | some pl =>
        rw [hp] at e; simp only [Option.bind_some] at *
        exact pureO_bind e
  case makeFunc fn first caps =>
    unfold oMakeFunc at *
    split at e
    case h_2 => cases e
    split at e
    case isFalse => cases e
    rename_i hf
    simp only [if_pos hf]
    cases hc : mapO ρ caps.toList with
    | none => rw [hc] at e; cases e
    | some cs => rw [hc] at e; cases e; exact ⟨_, rfl, fun _ => rfl⟩
  case convert s d x =>
    unfold oConvert pairO at *
    cases hx : ρ x with
    | none => rw [hx] at e; cases e
    | some a =>
      rw [hx] at e; simp only [Option.bind_some] at *
      split at hk
      · rename_i k hd
        unfold convertA at *
        by_cases hs : (P.underlying s).isSome = false
        · rw [if_pos hs] at e; cases e
        · simp only [if_neg hs, hd] at *
          cases a <;> simp only [Option.map_some, Option.map_none] at e <;> try (cases e)
          · exact ⟨_, rfl, fun _ => rfl⟩
          · exfalso
            revert e
            split
            · simp
            · simp
      · cases hk
      · cases hk
  case call c =>
    unfold oCall at *
    cases hx : mapO ρ c.args.toList with
    | none => rw [hx] at e; cases e
    | some xs =>
      rw [hx] at e; simp only [Option.bind_some] at *
      cases hc : c.callee with
      | value _ => rw [hc] at hk; cases hk
      | invoke _ _ => rw [hc] at hk; cases hk
      | builtin b =>
        rw [hc] at hk
        simp only [hc] at *
        cases b <;> simp only at hk <;> try (exact absurd hk (by decide))
        all_goals
          unfold builtinA one1 two2 at *
          simp only at *
          split at e
          · first | exact pureO_bind e | exact pureO_free e
          · cases e
theorem read_ok0 {ρ : Rho} {o : Oper} {r : ANext} (hk : kindA P o = 1) (e : aop0 P ρ h o = some r) : ∃ v, r = .val v h := by
  unfold kindA at hk
  unfold aop0 opA at *
  cases ho : o.op <;> simp only [ho] at hk e <;> try (exact absurd hk (by decide))
  case load t x =>
    obtain ⟨v, q, _⟩ := pureO_bind e
    exact ⟨v, q⟩
  case lookup t x i ok =>
    unfold oLookup at e
    split at e
    case h_2 => cases e
    simp only [Option.bind_eq_some_iff] at e
    obtain ⟨m, _, k, _, e⟩ := e
    obtain ⟨v, q, _⟩ := pureO_free e
    exact ⟨v, q⟩
  case convert s d x =>
    unfold oConvert pairO at e
    cases hx : ρ x with
    | none => rw [hx] at e; cases e
    | some a =>
      rw [hx] at e; simp only [Option.bind_some] at e
      split at hk
      · cases hk
      · rename_i hd
        unfold convertA at e
        by_cases hs : (P.underlying s).isSome = false
        · rw [if_pos hs] at e; cases e
        · simp only [if_neg hs, hd] at e
          simp only [Option.map_eq_some_iff] at e
          obtain ⟨⟨v, h'⟩, q, rfl⟩ := e
          split at q
          · cases q; exact ⟨_, rfl⟩
          · cases q; exact ⟨_, rfl⟩
          · cases q
          · split at q
            · split at q
              · split at q
                · cases q; exact ⟨_, rfl⟩
                · split at q
                  · simp only [Option.bind_eq_some_iff, Option.map_eq_some_iff] at q
                    obtain ⟨_, _, _, _, q⟩ := q
                    cases q; exact ⟨_, rfl⟩
                  · cases q
              · cases q
            · cases q
          · cases q
      · cases hk
  case call c =>
    cases hc : c.callee with
    | value _ => rw [hc] at hk; cases hk
    | invoke _ _ => rw [hc] at hk; cases hk
    | builtin b => rw [hc] at hk; cases b <;> cases hk
end Go.Vai
/- The abstract machine: operations more: structs held against each other, slices with three numbers, a map's entry. -/
namespace Go.Vai
set_option linter.unusedVariables false
set_option linter.unusedSimpArgs false
set_option linter.unusedSectionVars false
variable [Lane]
variable {P : Program} {base : Nat} {φ φ' φ'' : Emb} {h h' h'' : Heap} {w w' w'' : World}
theorem eqS_ok {op : BinOp} {t : TypeId} {x y : Operand} {p q v : AV} {pv qv : Value} (hp : VR φ w p pv) (hq : VR φ w q qv) (e : eqS P op t p q = some v) :
    ∃ u, (do eqGuard op t x y pv qv; Go.binOp op t pv qv : Sem Value).run P w = .ok u w ∧ VR φ w v u := by
  unfold eqS at e
  split at e
  case h_2 => cases e
  split at e
  case h_2 => cases e
  rename_i xs ys
  cases hg : P.eqGuardType P.depth t with
  | true => rw [hg] at e; cases e
  | false =>
  rw [hg, cond_false] at e
  simp only [Option.bind_eq_some_iff] at e
  obtain ⟨c, hc, e⟩ := e
  cases hp with
  | agg _ vs hvs =>
  cases hq with
  | agg _ us hus =>
  have heq : (Op.equal t (.agg ⟨vs⟩) (.agg ⟨us⟩)).run P w = .ok c w := eqIn_ok 5 t _ _ c _ _ hc (.agg _ _ hvs) (.agg _ _ hus) 9995
  have hG : (eqGuard op t x y (.agg ⟨vs⟩) (.agg ⟨us⟩)).run P w = .ok () w := by
    unfold eqGuard
    cases op <;> simp [hg]
  split at e
  · cases e
    exact ⟨.bool c, by simp only [Sem.run_bind, hG, Result.andThen_ok, Go.binOp, heq]; rfl, .bool _⟩
  · cases e
    exact ⟨.bool (!c), by simp only [Sem.run_bind, hG, Result.andThen_ok, Go.binOp, heq]; rfl, .bool _⟩
  · cases e
theorem lssL_ok {op : BinOp} {t : TypeId} {x y : Operand} {p q v : AV} {pv qv : Value} (hp : VR φ w p pv) (hq : VR φ w q qv) (e : lssL op p q = some v) :
    ∃ u, (do eqGuard op t x y pv qv; Go.binOp op t pv qv : Sem Value).run P w = .ok u w ∧ VR φ w v u := by
  unfold lssL at e
  split at e
  case h_2 => cases e
  split at e
  case h_2 => cases e
  rename_i i lo
  split at e
  case h_2 => cases e
  rename_i k a
  cases hc : (k == IntKind.i64 && decide (a < (lo : Int))) with
  | false => rw [hc] at e; cases e
  | true =>
  rw [hc, cond_true] at e
  cases e
  simp only [Bool.and_eq_true, beq_iff_eq, decide_eq_true_eq] at hc
  obtain ⟨rfl, hlt⟩ := hc
  cases hp
  cases hq with
  | big _ _ hb =>
  have hG : (eqGuard .lss t x y (.int .i64 a) (.int .i64 (Lane.arg i))).run P w = .ok () w := by simp [eqGuard]
  have hd : a < Lane.arg i := by omega
  exact ⟨.bool true, by simp [Sem.run_bind, hG, Go.binOp, Op.intCmp, hd], .bool _⟩
theorem diffS_ok {op : BinOp} {t : TypeId} {x y : Operand} {p q v : AV} {pv qv : Value} (hp : VR φ w p pv) (hq : VR φ w q qv) (e : diffS op p q = some v) :
    ∃ u, (do eqGuard op t x y pv qv; Go.binOp op t pv qv : Sem Value).run P w = .ok u w ∧ VR φ w v u := by
  unfold diffS at e
  split at e
  case h_2 => cases e
  rename_i l
  split at e
  case h_2 => cases e
  rename_i m
  cases hc : (DIFF.any (fun p => (Nat.beq p.1 l.length && Nat.beq p.2 m.length) || (Nat.beq p.2 l.length && Nat.beq p.1 m.length)) && unlike l m) with
  | false => rw [hc] at e; cases e
  | true =>
  rw [hc, cond_true] at e
  simp only [Bool.and_eq_true] at hc
  obtain ⟨hd, hu⟩ := hc
  have hne : Lane.l l.length ≠ Lane.l m.length := by
    obtain ⟨p, h1, h2⟩ := List.any_eq_true.1 hd
    have := Lane.diff p h1
    simp only [Bool.or_eq_true, Bool.and_eq_true, Nat.beq_eq] at h2
    rcases h2 with ⟨h2, h3⟩ | ⟨h2, h3⟩
    · rw [← h2, ← h3]; exact this
    · rw [← h2, ← h3]; exact Ne.symm this
  cases hp with
  | vec _ x0 _ hl hs k =>
  cases hq with
  | vec _ y0 _ hm hs' k' =>
  have h1 := List.all_eq_true.1 hu _ (List.mem_range.2 (Lane.cap l.length))
  have h2 := List.all_eq_true.1 h1 _ (List.mem_range.2 (Lane.cap m.length))
  rw [hl, hm] at h2
  have hb : Nat.beq (Lane.l l.length) (Lane.l m.length) = false := by
    cases hb : Nat.beq (Lane.l l.length) (Lane.l m.length) with
    | false => rfl
    | true => exact absurd (Nat.eq_of_beq_eq_true hb) hne
  rw [hb, Bool.false_or] at h2
  simp only [Bool.and_eq_true] at h2
  replace h2 := h2.2
  have fin : ∀ {u1 u2 : Value}, ((Go.binOp .eql t u1 u2).run P w = .ok (.bool false) w) → ((Go.binOp .neq t u1 u2).run P w = .ok (.bool true) w) → (∀ o, (eqGuard o t x y u1 u2).run P w = .ok () w) → ∃ u, (do eqGuard op t x y u1 u2; Go.binOp op t u1 u2 : Sem Value).run P w = .ok u w ∧ VR φ w v u := by
    intro u1 u2 a1 a2 a3
    split at e
    · cases e; exact ⟨.bool false, by simp only [Sem.run_bind, a3, Result.andThen_ok, a1], .bool _⟩
    · cases e; exact ⟨.bool true, by simp only [Sem.run_bind, a3, Result.andThen_ok, a2], .bool _⟩
    · cases e
  split at h2
  · rename_i k1 a1
    split at h2
    case h_2 => cases h2
    rename_i k2 b1
    simp only [Bool.and_eq_true, beq_iff_eq, Bool.not_eq_true', beq_eq_false_iff_ne] at h2
    obtain ⟨rfl, h2⟩ := h2
    cases k; cases k'
    exact fin (by simp [Go.binOp, Op.intCmp, h2]) (by simp [Go.binOp, Op.intCmp, h2]) (fun o => by cases o <;> simp [eqGuard])
  · rename_i a1
    split at h2
    case h_2 => cases h2
    rename_i b1
    simp only [Bool.not_eq_true', beq_eq_false_iff_ne] at h2
    cases k; cases k'
    have hb1 : (a1 == b1) = false := by simpa using h2
    exact fin (by simp only [Go.binOp, Op.stringOp, toList_mk, hb1]; rfl) (by simp only [Go.binOp, Op.stringOp, toList_mk, bne, hb1]; rfl) (fun o => by cases o <;> simp [eqGuard])
  · cases h2
theorem binX_ok {op : BinOp} {t : TypeId} {x y : Operand} {p q v : AV} {pv qv : Value} (hp : VR φ w p pv) (hq : VR φ w q qv) (e : orElseV (eqS P op t p q) (orElseV (lssL op p q) (diffS op p q)) = some v) :
    ∃ u, (do eqGuard op t x y pv qv; Go.binOp op t pv qv : Sem Value).run P w = .ok u w ∧ VR φ w v u := by
  unfold orElseV at e
  split at e
  · rename_i r hr
    cases e
    exact eqS_ok hp hq hr
  · split at e
    · rename_i r hr
      cases e
      exact lssL_ok hp hq hr
    · exact diffS_ok hp hq e
theorem lenL_ok {ts : Array TypeId} {t ty el : TypeId} (h0 : ts[0]? = some t) (hu : P.underlying t = some (.slice el)) {x v : AV} {xv : Value} (hx : VR φ w x xv) (e : lenL x = some v) : ∃ u, (Builtin.len_ ts ty #[xv]).run P w = .ok u w ∧ VR φ w v u := by
  unfold lenL at e
  split at e
  case h_2 => cases e
  cases e
  cases hx with
  | lslice a ad n i ex len cap hl hx h1 hsl =>
  refine ⟨.int .i64 len, by simp [Builtin.len_, h0, run_underlying hu, goInt], ?_⟩
  rename_i ex
  cases ex with
  | true => rw [hx rfl]; exact .int _ _
  | false =>
    obtain ⟨e1, e2⟩ := hl rfl
    rw [← e1]
    exact .big _ _ (by omega)
theorem idxL_ok {t : TypeId} {x ix v : AV} {xv iv : Value} (hx : VR φ w x xv) (hi : VR φ w ix iv) (e : idxL P t x ix = some v) :
    ∃ u, (Instr.indexAt t xv iv).run P w = .ok u w ∧ VR φ w v u := by
  unfold idxL at e
  split at e
  case h_2 => cases e
  rename_i k i
  cases hi
  have r0 : (asIntOf (.int k i)).run P w = .ok (k, i) w := rfl
  split at e
  case h_2 => cases e
  rename_i el hu
  split at e
  case h_2 => cases e
  rename_i a n j ex0
  simp only [Option.bind_eq_some_iff] at e
  obtain ⟨z, hz, e⟩ := e
  split at e
  case isFalse => cases e
  rename_i hz1
  subst hz1
  obtain ⟨hc, rfl⟩ := atA_ok (ad := ⟨0, 0, none⟩) e
  cases hx with
  | lslice _ ad _ _ ex len cap hl hx h1 hsl =>
  have hn : n ≤ len := by
    cases ex0 with
    | true => rw [hx rfl]; exact Nat.le_refl _
    | false => exact (hl rfl).2
  have hc2 : 0 ≤ i ∧ i < (len : Int) := by omega
  have h1 : LR φ a ad := by
    rcases h1 with h1 | h1
    · omega
    · exact h1
  refine ⟨_, ?_, .ptr _ _ (h1.shift (i.toNat * 1))⟩
  unfold Instr.indexAt
  simp only [Sem.run_bind, r0, run_underlying hu, Result.andThen_ok, Sem.run_pure, hc2, and_self, if_true, run_sizeT hz]
theorem slice3A_ok {t : TypeId} {x v : AV} {xv hv mv : Value} {lo : Option AV} {hi mx : AV} {lov : Option Value} (hx : VR φ w x xv) (hlo : OptR φ w lo lov) (hhi : VR φ w hi hv) (hmx : VR φ w mx mv) (e : slice3A P t x lo hi mx = some v) :
    ∃ u, (Instr.sliceAt t xv lov (some hv) (some mv)).run P w = .ok u w ∧ VR φ w v u := by
  unfold slice3A at e
  split at e
  case h_2 => cases e
  rename_i el hu
  split at e
  case h_2 => cases e
  rename_i a len room sz
  simp only [Option.bind_eq_some_iff] at e
  obtain ⟨n, hn, e⟩ := e
  split at e
  case isFalse => cases e
  rename_i hsz
  subst hsz
  simp only [Option.bind_eq_some_iff, Option.some.injEq] at e
  obtain ⟨m, hm, k1, hk1, k, hk, rfl⟩ := e
  cases hx with
  | slice _ ad _ _ _ cap hn' hr hz he hh =>
  have hm' : m ≤ room := by
    unfold boundA at hm
    split at hm
    · split at hm
      · cases hm; omega
      · cases hm
    · cases hm
  have b0 : (Instr.sliceBound mv cap .slice3Acap).run P w = .ok m w := by
    unfold boundA at hm
    split at hm
    · split at hm
      · rename_i i hi'
        cases hm; cases hmx
        have : 0 ≤ i ∧ i ≤ (cap : Int) := by omega
        simp [Instr.sliceBound, asIntOf, this]
      · cases hm
    · cases hm
  obtain ⟨b1, c1⟩ := boundA_ok (P := P) hhi hk1 .slice3B
  have b2 : (match lov with | some v => Instr.sliceBound v k1 .slice3C | none => pure 0 : Sem Nat).run P w = .ok k w ∧ k ≤ k1 := by
    cases hlo with
    | none => simp only [hiA, Option.some.injEq] at hk; subst hk; exact ⟨rfl, Nat.zero_le _⟩
    | some hx => exact boundA_ok hx hk _
  obtain ⟨b2, c2⟩ := b2
  refine ⟨.slice (some (if m = k then ad else ad.add (k * n))) (k1 - k) (m - k), ?_, ?_⟩
  · unfold Instr.sliceAt
    simp only [Sem.run_bind, run_underlying hu, Result.andThen_ok]
    unfold Instr.slice
    simp only [Sem.run_bind, run_underlying hu, Result.andThen_ok]
    have hb : (Instr.sliceBounds true len cap lov (some hv) (some mv)).run P w = .ok (k, k1, m) w := by
      unfold Instr.sliceBounds
      cases hlo <;> simp_all
    simp only [hb, run_sizeT hn, Result.andThen_ok, Sem.run_pure]
    split <;> rfl
  · have hle : a.i + k * n + (m - k) * n ≤ a.e := by
      have : k * n + (m - k) * n = m * n := by rw [← Nat.add_mul]; congr 1; omega
      have : m * n ≤ room * n := Nat.mul_le_mul_right _ hm'
      omega
    refine .slice _ _ _ _ _ _ (by omega) (Nat.le_refl _) hz hle ?_
    by_cases hmk : m = k
    · exact .inl (by omega)
    · rw [if_neg hmk]
      rcases hh with hh | ⟨h1, h2⟩
      · exact .inl (by omega)
      · right
        refine ⟨h1.shift _, ?_⟩
        obtain ⟨o1, o2⟩ := h1.add_off (k * n)
        rw [o1, o2]
        obtain ⟨arr, t', fz, p1, p2, p3⟩ := h2
        refine ⟨arr, t', fz, p1, ?_, p3⟩
        have : k * n + (m - k) * n = m * n := by rw [← Nat.add_mul]; congr 1; omega
        have : m * n ≤ cap * n := Nat.mul_le_mul_right _ (Nat.le_trans hm' hr)
        omega
theorem mapEntry_ok (H : HR base φ h w) {t kt el : TypeId} (hu : P.underlying t = some (.map kt el)) {m k : AV} {mv kv : Value} {r : AV × Heap} (hm : VR φ w m mv) (hk : VR φ w k kv) (e : entV P h kt el m k = some r) :
    ∃ w' u, (Instr.mapEntry t mv kv).run P w = .ok u w' ∧ Step base φ h w φ r.2 w' ∧ VR φ w' r.1 u := by
  unfold entV at e
  split at e
  case h_2 => cases e
  rename_i b
  split at e
  case h_2 => cases e
  rename_i es hg
  cases hc : chkK P kt k && scalarV k with
  | false => rw [hc] at e; cases e
  | true =>
  rw [hc, cond_true] at e
  simp only [Bool.and_eq_true] at hc
  obtain ⟨hc1, hc2⟩ := hc
  simp only [Option.bind_eq_some_iff, Option.map_eq_some_iff] at e
  obtain ⟨r0, hr, x1, hx1, os, ho, rfl⟩ := e
  cases hm with
  | map _ c hcc =>
  obtain ⟨_, _, o, q3, q4⟩ := H.other _ _ _ _ hg rfl hcc
  cases q4 with
  | map _ ms k1 k2 =>
  obtain ⟨k', hc', hk'⟩ := chkK_at hc1 hk
  obtain ⟨d, hd⟩ := chk_desc hc'
  obtain ⟨r', f1, f2⟩ := findKey_ok hd hk k1 hr
  have hck : (Instr.checkKey false 10000 kt kv).run P w = .ok () w := chk_ok (P := P) false 5 kt k' kv hc' hk' 9995
  have hlen : ms.size = es.length := by rw [k1.length, Array.length_toList]
  cases r0 with
  | none =>
    cases r' with
    | some _ => exact f2.elim
    | none =>
      simp only [Option.map_eq_some_iff] at hx1
      obtain ⟨z, hz, rfl⟩ := hx1
      obtain ⟨zv, z1, z2⟩ := run_zeroT' hz
      have hs : Step base φ h w φ { h with objs := os } (setBlock w c.cb (.map (ms.push { key := kv, val := zv, born := ms.size }) (ms.size + 1))) := by
        refine obj_step H hg rfl (by simp) hcc ho rfl ?_
        have := ObjR.map (φ := φ) (w := w) (es ++ [(k, z)]) (ms.push { key := kv, val := zv, born := ms.size }) (by rw [Array.toList_push]; exact k1.append (.cons ⟨hk, z2 φ w⟩ .nil)) (by
          intro i x hx
          rw [Array.getElem?_push] at hx
          split at hx
          · rename_i q; cases hx; exact q.symm
          · exact k2 i x hx)
        rwa [Array.size_push] at this
      refine ⟨_, .tuple #[zv, .int .i64 (ms.size : Nat)], ?_, hs, .tup _ _ (.cons (z2 φ _) (.cons (by rw [hlen]; exact .int _ _) .nil))⟩
      simp only [Instr.mapEntry, Sem.run_bind, run_underlying hu, getObj, Sem.run, q3, Result.andThen_ok, hck, f1, z1, setObj, Sem.run_pure]
      rfl
  | some p =>
    obtain ⟨i, v0⟩ := p
    cases r' with
    | none => exact f2.elim
    | some p' =>
      obtain ⟨j, u0⟩ := p'
      obtain ⟨rfl, hv0⟩ := f2
      simp only at hx1
      split at hx1
      case h_2 => cases hx1
      rename_i e0 he0
      split at hx1
      case isFalse => cases hx1
      rename_i hsame
      cases hx1
      simp only [Bool.and_eq_true] at hsame
      have hke := sameV_eq hsame.1
      have hve := sameV_eq hsame.2
      obtain ⟨x0, hx0, hx1⟩ := k1.get i _ he0
      have hx0' : ms[i]? = some x0 := by simpa using hx0
      have hkv : x0.key = kv := scalarV_fun hc2 (by rw [hke]; exact hx1.key) hk
      have hstay : (Instr.keyThatStays (((ms[i]?).map (·.key)).getD kv) kv).run P w = .ok kv w := by
        rw [hx0']
        simp only [Option.map_some, Option.getD_some, hkv]
        unfold Instr.keyThatStays
        rw [if_pos (sameBits_scalarV hc2 hk 9999)]
        rfl
      have hs : Step base φ h w φ { h with objs := os } (setBlock w c.cb (.map (ms.modify i fun e => { e with key := kv }) ms.size)) := by
        refine obj_step H hg rfl (by simp) hcc ho rfl ?_
        have := ObjR.map (φ := φ) (w := w) (putE k v0 i es) (ms.modify i fun e => { e with key := kv }) (by
          rw [putE_modify, Array.toList_modify]
          refine k1.modify i _ _ fun a b h1 h2 => ⟨hk, ?_⟩
          rw [he0] at h1
          cases h1
          have h2' : ms[i]? = some b := by simpa using h2
          rw [hx0'] at h2'
          cases h2'
          show VR φ w v0 x0.val
          rw [hve]; exact hx1.val) (by
          intro n x hx
          rw [Array.getElem?_modify] at hx
          split at hx
          · rename_i q
            simp only [Option.map_eq_some_iff] at hx
            obtain ⟨y, hy, rfl⟩ := hx
            exact k2 n y hy
          · exact k2 n x hx)
        rwa [Array.size_modify] at this
      refine ⟨_, .tuple #[u0, .int .i64 (i : Nat)], ?_, hs, .tup _ _ (.cons (hv0.mono hs.ext hs.rows) (.cons (.int _ _) .nil))⟩
      have hborn : x0.born = i := k2 i x0 hx0'
      have hbg : ((ms[i]?).map (fun e => (e.born : Int))).getD 0 = (i : Int) := by rw [hx0']; simp [hborn]
      simp only [Instr.mapEntry, Sem.run_bind, run_underlying hu, getObj, Sem.run, q3, Result.andThen_ok, hck, f1, hstay, setObj, Sem.run_pure, hbg]
      rfl
theorem findIdx_born {ms : Array MapEntry} (hb : ∀ (i : Nat) (m : MapEntry), ms[i]? = some m → m.born = i) {j : Nat} {m : MapEntry} (hj : ms[j]? = some m) : ms.findIdx? (fun e => (e.born : Int) == (j : Int)) = some j := by
  rw [Array.findIdx?_eq_some_iff_getElem]
  obtain ⟨hlt, hget⟩ := Array.getElem?_eq_some_iff.1 hj
  refine ⟨hlt, ?_, fun i hi => ?_⟩
  · rw [hget, hb j m hj]; simp
  · have := hb i ms[i] (Array.getElem?_eq_getElem _)
    rw [this]
    have : (i : Int) ≠ (j : Int) := by omega
    simpa using this
theorem entryStore_ok (H : HR base φ h w) {t : TypeId} {m s v : AV} {mv sv vv : Value} {h' : Heap} (hm : VR φ w m mv) (hs : VR φ w s sv) (hv : VR φ w v vv) (e : storV h m s v = some h') :
    ∃ w', (Instr.entryStore t mv sv vv).run P w = .ok () w' ∧ Step base φ h w φ h' w' := by
  unfold storV at e
  split at e
  case h_2 => cases e
  rename_i b
  split at e
  case h_2 => cases e
  rename_i es hg
  split at e
  case h_2 => cases e
  rename_i kd i
  split at e
  case h_2 => cases e
  rename_i e0 he0
  simp only [Option.map_eq_some_iff] at e
  obtain ⟨os, ho, rfl⟩ := e
  cases hs
  cases hm with
  | map _ c hcc =>
  obtain ⟨_, _, o, q3, q4⟩ := H.other _ _ _ _ hg rfl hcc
  cases q4 with
  | map _ ms k1 k2 =>
  obtain ⟨x0, hx0, hx1⟩ := k1.get i _ he0
  have hx0' : ms[i]? = some x0 := by simpa using hx0
  have hfi := findIdx_born k2 hx0'
  refine ⟨setBlock w c.cb (.map (ms.modify i fun e => { e with val := vv }) ms.size), ?_, ?_⟩
  · simp only [Instr.entryStore, Sem.run_bind, getObj, Sem.run, q3, Result.andThen_ok, asInt, Sem.run_pure]
    have hfi' : ms.findIdx? (fun e => (e.born : Int) == Int.ofNat i) = some i := hfi
    have ha : (asIntOf (.int kd (Int.ofNat i))).run P w = .ok (kd, Int.ofNat i) w := rfl
    simp only [ha, Result.andThen_ok, hfi', setObj, Sem.run, q3]
    rfl
  · refine obj_step H hg rfl (by simp) hcc ho rfl ?_
    have := ObjR.map (φ := φ) (w := w) (putE e0.1 v i es) (ms.modify i fun e => { e with val := vv }) (by
      rw [putE_modify, Array.toList_modify]
      refine k1.modify i _ _ fun a b h1 h2 => ⟨?_, hv⟩
      have h2' : ms[i]? = some b := by simpa using h2
      rw [hx0'] at h2'
      cases h2'
      exact hx1.key) (by
      intro n x hx
      rw [Array.getElem?_modify] at hx
      split at hx
      · rename_i q
        simp only [Option.map_eq_some_iff] at hx
        obtain ⟨y, hy, rfl⟩ := hx
        exact k2 n y hy
      · exact k2 n x hx)
    rwa [Array.size_modify] at this
theorem op_okX (H : HR base φ h w) {a : Act} {ρ : Rho} (hρ : ∀ x v, ρ x = some v → VR φ w v (a.eval x)) {o : Oper} {r : ANext} (e : aopX P ρ h o = some r) :
    NextR P base φ h w r ((execOp a.eval o).run P w) := by
  unfold aopX at e
  unfold execOp
  cases ho : o.op <;> simp only [ho] at e ⊢ <;> try (exact absurd e (by simp))
  case binOp op t x y u =>
    unfold oEqS at e
    simp only [Option.bind_eq_some_iff] at e
    obtain ⟨p, hp, q, hq, e⟩ := e
    exact pure_R H e fun v hv => binX_ok (hρ _ _ hp) (hρ _ _ hq) hv
  case slice t x lo hi mx =>
    unfold oSlice3 at e
    split at e
    case h_2 => cases e
    rename_i m
    split at e
    case h_2 => cases e
    rename_i hi
    simp only [Option.bind_eq_some_iff] at e
    obtain ⟨p, hp, l, hl, q, hq, m', hm, e⟩ := e
    exact pure_R H e fun v hv => by
      obtain ⟨u, q1, q2⟩ := slice3A_ok (P := P) (hρ _ _ hp) (opt_R hρ lo hl) (hρ _ _ hq) (hρ _ _ hm) hv
      refine ⟨u, ?_, q2⟩
      rw [← q1]
      rfl
  case mapEntry t m k =>
    unfold oMapEntry at e
    split at e
    case h_2 => cases e
    rename_i kt el hu
    simp only [Option.bind_eq_some_iff] at e
    obtain ⟨mv, hm, kv, hk, e⟩ := e
    exact pair_R e fun v hv => by
      obtain ⟨w', u, q1, q2, q3⟩ := mapEntry_ok (P := P) H hu (hρ _ _ hm) (hρ _ _ hk) hv
      exact ⟨φ, w', u, q1, q2, q3⟩
  case entryStore t m s v =>
    unfold oEntryStore at e
    simp only [Option.bind_eq_some_iff, Option.map_eq_some_iff] at e
    obtain ⟨mv, hm, sv, hs, vv, hv, h', hst, rfl⟩ := e
    obtain ⟨w', h1, h2⟩ := entryStore_ok (P := P) (t := t) H (hρ _ _ hm) (hρ _ _ hs) (hρ _ _ hv) hst
    exact ⟨φ, w', by simp only [Sem.run_bind, h1, Result.andThen_ok, Sem.run_pure], h2⟩
  case indexAddr t x i =>
    unfold oIdxL at e
    simp only [Option.bind_eq_some_iff] at e
    obtain ⟨p, hp, q, hq, e⟩ := e
    exact pure_R H e fun v hv => idxL_ok (hρ _ _ hp) (hρ _ _ hq) hv
  case call c =>
    unfold oLenL at e
    split at e
    case h_2 => cases e
    rename_i hc
    simp only [Option.bind_eq_some_iff] at e
    obtain ⟨xs, hxs, e⟩ := e
    have hargs := args_all2 hρ c.args hxs
    simp only [resolve, hc]
    generalize c.args.map a.eval = as at hargs ⊢
    simp only [Sem.run_bind, Sem.run_pure, Result.andThen_ok, invoke]
    unfold one1 at e
    split at e
    case h_2 => cases e
    simp only [Option.bind_eq_some_iff] at e
    obtain ⟨t, ht, e⟩ := e
    split at e
    case h_2 => cases e
    rename_i el hu
    obtain ⟨v, rfl, hv⟩ := one_arr hargs
    exact pure_R H e fun y hy => lenL_ok (P := P) (ty := o.type) ht hu hv hy
theorem free_okX {ρ : Rho} {o : Oper} {r : ANext} (hk : kindA P o = 0) (e : aopX P ρ h o = some r) : ∃ v, r = .val v h ∧ ∀ h', aopX P ρ h' o = some (.val v h') := by
  unfold kindA at hk
  unfold aopX at *
  cases ho : o.op <;> simp only [ho] at hk e ⊢ <;> try (exact absurd e (by simp))
  case binOp op t x y u =>
    unfold oEqS at *
    cases hx : ρ x with
    | none => rw [hx] at e; cases e
    | some a =>
      rw [hx] at e; simp only [Option.bind_some] at *
      exact pureO_bind e
  case slice t x lo hi mx =>
    unfold oSlice3 at *
    cases mx with
    | none => cases e
    | some m =>
    cases hi with
    | none => cases e
    | some hi =>
    simp only at *
    cases hx : ρ x with
    | none => rw [hx] at e; cases e
    | some a =>
    rw [hx] at e; simp only [Option.bind_some] at *
    cases hl : optO ρ lo with
    | none => rw [hl] at e; cases e
    | some l =>
    rw [hl] at e; simp only [Option.bind_some] at *
    cases hh : ρ hi with
    | none => rw [hh] at e; cases e
    | some hi' =>
    rw [hh] at e; simp only [Option.bind_some] at *
    exact pureO_bind e
  case indexAddr t x i =>
    unfold oIdxL at *
    cases hx : ρ x with
    | none => rw [hx] at e; cases e
    | some a =>
      rw [hx] at e; simp only [Option.bind_some] at *
      exact pureO_bind e
  case call c =>
    unfold oLenL at *
    split at e
    case h_2 => cases e
    cases hx : mapO ρ c.args.toList with
    | none => rw [hx] at e; cases e
    | some xs =>
    rw [hx] at e
    simp only [Option.bind_some] at *
    unfold one1 at *
    split at e
    case h_2 => cases e
    rename_i x
    cases ht : c.argTypes[0]? with
    | none => rw [ht] at e; cases e
    | some t =>
    rw [ht] at e
    simp only [Option.bind_some] at *
    split at e
    case h_2 => cases e
    cases hl : lenL x with
    | none => rw [hl] at e; cases e
    | some v =>
      rw [hl] at e
      cases e
      exact ⟨v, rfl, fun h' => by simp [pureO]⟩
  all_goals exact absurd hk (by decide)
theorem read_okX {ρ : Rho} {o : Oper} {r : ANext} (hk : kindA P o = 1) (e : aopX P ρ h o = some r) : ∃ v, r = .val v h := by
  unfold kindA at hk
  unfold aopX at e
  cases ho : o.op <;> simp only [ho] at hk e <;> first | (exact absurd hk (by decide)) | (exact absurd e (by simp; done)) | skip
  case call c =>
    exfalso
    split at hk <;> cases hk
end Go.Vai
/- The abstract machine: operations done lane by lane. -/
namespace Go.Vai
set_option linter.unusedVariables false
set_option linter.unusedSimpArgs false
set_option linter.unusedSectionVars false
variable [Lane]
namespace Tr
variable {α β : Type}
theorem root_map (f : α → β) (t : Tr α) : rootB.f (t.map f) = (rootB.f t).map f := by rcases t with _ | ⟨v, ⟨⟩⟩ <;> rfl
theorem ch_map (f : α → β) (t : Tr α) {d : Nat} (h : d < 16) : (chB d).f (t.map f) = ((chB d).f t).map f := by
  rcases lt16 h with rfl|rfl|rfl|rfl|rfl|rfl|rfl|rfl|rfl|rfl|rfl|rfl|rfl|rfl|rfl|rfl <;> rcases t with _ | ⟨v, ⟨⟩⟩ <;> rfl
theorem getB_map (f : α → β) : ∀ (n k : Nat) (t : Tr α), (getB n k).f (t.map f) = ((getB n k).f t).map f
  | 0, k, t => rfl
  | n + 1, k, t => by
    by_cases h0 : k = 0
    · subst h0; rw [getB_zero, getB_zero]; exact root_map f t
    · rw [getB_pos n h0, getB_pos n h0, ch_map f t (Nat.mod_lt _ (by decide)), getB_map f n]
theorem get_map (f : α → β) (t : Tr α) (k : Nat) : (t.map f).get k = (t.get k).map f := getB_map f 44 k t
end Tr
variable {P : Program} {base : Nat} {φ φ' φ'' : Emb} {h h' h'' : Heap} {w w' w'' : World}
theorem projH_get (n j : Nat) (h : Heap) (b : Nat) : (projH n j h).objs.get b = (h.objs.get b).map (projO n j) := Tr.get_map _ _ _
theorem atC_get {n j : Nat} {cs : Tr (Nat × AV)} {i lo : Nat} {v : AV} (e : (cs.map (atC n j)).get i = some (lo, v)) : ∃ v0, cs.get i = some (lo, v0) ∧ v = atL n j v0 := by
  rw [Tr.get_map] at e
  simp only [Option.map_eq_some_iff] at e
  obtain ⟨⟨lo', v0⟩, h1, h2⟩ := e
  simp only [atC, Prod.mk.injEq] at h2
  obtain ⟨rfl, rfl⟩ := h2
  exact ⟨v0, h1, rfl⟩
theorem projO_cells {n j : Nat} {x : AObj} {ro : Bool} {gen : Nat} {cs : Tr (Nat × AV)} (e : projO n j x = .cells ro gen cs) : ∃ cs0, x = .cells ro gen cs0 ∧ cs = cs0.map (atC n j) := by
  cases x <;> simp only [projO] at e <;> first | cases e | skip
  exact ⟨_, rfl, rfl⟩
theorem HR.lane (H : HR base φ h w) (n : Nat) : HR base φ (projH n (Lane.l n) h) w := by
  refine ⟨fun b hb => ⟨?_, (H.fresh b hb).2⟩, H.low, H.range, H.inj, ?_, ?_, ?_⟩
  · rw [projH_get, (H.fresh b hb).1]; rfl
  · intro b ro gen cs e i lo v hi
    rw [projH_get] at e
    simp only [Option.map_eq_some_iff] at e
    obtain ⟨x, hx, e⟩ := e
    obtain ⟨cs0, rfl, rfl⟩ := projO_cells e
    obtain ⟨v0, h1, _⟩ := atC_get hi
    exact H.los _ _ _ _ hx _ _ _ h1
  · intro b ro gen cs g c e hc
    rw [projH_get] at e
    simp only [Option.map_eq_some_iff] at e
    obtain ⟨x, hx, e⟩ := e
    obtain ⟨cs0, rfl, rfl⟩ := projO_cells e
    obtain ⟨p1, p2, p3, arr, t, fz, pa, pf, pk⟩ := H.cells _ _ _ _ _ _ hx hc
    refine ⟨p1, p2, ?_, arr, t, fz, pa, pf, ?_⟩
    · intro i lo v hi
      obtain ⟨v0, h1, _⟩ := atC_get hi
      exact p3 _ _ _ h1
    · intro i lo v hi hle hai hie
      obtain ⟨v0, h1, rfl⟩ := atC_get hi
      obtain ⟨u, r1, r2, r3⟩ := pk i lo v0 h1 hle hai hie
      exact ⟨u, r1, r2.lane n, oneCell_lane r2 n r3⟩
  · intro b x g c e hx hc
    rw [projH_get] at e
    simp only [Option.map_eq_some_iff] at e
    obtain ⟨y, hy, e⟩ := e
    have : y = x := by
      cases y <;> simp only [projO] at e <;> first | exact e | skip
      rw [← e] at hx; cases hx
    subst this
    exact H.other _ _ _ _ hy hx hc
/-- an operation that only answers -/
def ValP (P : Program) (φ : Emb) (h : Heap) (w : World) (r : ANext) (res : Result Next) : Prop := ∃ v u, r = .val v h ∧ res = .ok (.value u) w ∧ VR φ w v u
theorem pure_P {o : Option AV} {r : ANext} (e : pureO h o = some r) {s : Sem Value} (hk : ∀ v, o = some v → ∃ u, s.run P w = .ok u w ∧ VR φ w v u) :
    ValP P φ h w r ((do pure (.value (← s)) : Sem Next).run P w) := by
  unfold pureO at e
  simp only [Option.map_eq_some_iff] at e
  obtain ⟨v, hv, rfl⟩ := e
  obtain ⟨u, h1, h2⟩ := hk v hv
  exact ⟨v, u, rfl, by simp only [Sem.run_bind, h1, Result.andThen_ok, Sem.run_pure], h2⟩
theorem pairP_P {o : Option (AV × Heap)} {r : ANext} (e : pairO o = some r) {s : Sem Value} (hk : ∀ v, o = some v → ∃ u, s.run P w = .ok u w ∧ v.2 = h ∧ VR φ w v.1 u) :
    ValP P φ h w r ((do pure (.value (← s)) : Sem Next).run P w) := by
  unfold pairO at e
  simp only [Option.map_eq_some_iff] at e
  obtain ⟨⟨v, h'⟩, hv, rfl⟩ := e
  obtain ⟨u, h1, h2, h3⟩ := hk _ hv
  simp only at h2
  subst h2
  exact ⟨v, u, rfl, by simp only [Sem.run_bind, h1, Result.andThen_ok, Sem.run_pure], h3⟩
theorem convertP_ok (H : HR base φ h w) {src dst : TypeId} {x : AV} {xv : Value} (hx : VR φ w x xv) {r : AV × Heap} (e : convertA P h src dst x = some r) (hd0 : (match P.underlying dst with | some (.int _) | some .string => true | _ => false) = true) :
    ∃ v, (convert src dst xv).run P w = .ok v w ∧ r.2 = h ∧ VR φ w r.1 v := by
  unfold convertA at e
  split at e
  · cases e
  rename_i hsome
  obtain ⟨us, hs⟩ : ∃ us, P.underlying src = some us := by
    cases q : P.underlying src with
    | none => rw [q] at hsome; simp at hsome
    | some us => exact ⟨us, rfl⟩
  split at e
  · split at e
    · rename_i k n _ k' hd
      cases e; cases hx
      refine ⟨_, ?_, rfl, .int _ _⟩
      simp [convert, run_underlying hs, run_underlying hd, Conv.intToInt]
    · rename_i k n _ hd
      cases e; cases hx
      refine ⟨.string (Utf8.encode n), ?_, rfl, .str _⟩
      simp [convert, run_underlying hs, run_underlying hd, Conv.intToString]
    · cases e
  · rename_i l
    split at e
    · rename_i hd
      cases e; cases hx
      refine ⟨_, ?_, rfl, .str _⟩
      simp [convert, run_underlying hs, run_underlying hd]
    · rename_i el hd
      rw [hd] at hd0; cases hd0
    · cases e
  · split at e
    case h_2 => cases e
    rename_i el hd
    rw [hd] at hd0; cases hd0
  · rename_i a n room sz
    split at e
    case h_2 => cases e
    rename_i el hsl
    split at e
    case h_3 => cases e
    case h_2 =>
      rename_i e' hd
      rw [hd] at hd0; cases hd0
    rename_i hd
    split at e
    case h_2 => cases e
    rename_i he
    split at e
    · cases e; cases hx
      refine ⟨_, ?_, rfl, .str []⟩
      rw [run_convert_bytes_string w src dst el _ _ _ hsl he hd]
      rfl
    · rename_i a
      split at e
      case isFalse => cases e
      rename_i hsz
      subst hsz
      simp only [Option.bind_eq_some_iff, Option.map_eq_some_iff] at e
      obtain ⟨vs, hvs, l, hl, rfl⟩ := e
      cases hx with
      | slice _ ad _ _ _ cap g1 g2 g3 g4 g5 =>
      have key : ∃ us : List Value, (loadCells ad n).run P w = .ok us.toArray w ∧ All2 (VR φ w) vs us := by
        rcases g5 with g5 | ⟨g5, _⟩
        · have : n = 0 := by omega
          subst this
          simp only [loadN, Option.some.injEq] at hvs
          subst hvs
          exact ⟨[], by simp [loadCells, loadCellsFrom], .nil⟩
        · obtain ⟨us, q1, q2, _⟩ := loadN_cells (P := P) H g5 n 0 vs #[] hvs
          exact ⟨us, by simpa [loadCells] using q1, q2⟩
      obtain ⟨us, q1, q2⟩ := key
      obtain ⟨ns, rfl, rfl⟩ := bytes_read q2 hl
      refine ⟨.string ⟨⟨ns.map fun n => UInt8.ofNat n.toNat⟩⟩, ?_, rfl, .str _⟩
      rw [run_convert_bytes_string w src dst el _ _ _ hsl he hd, run_bytesToString w ad n cap ns q1]
      have := fold_push ns []
      rw [List.nil_append] at this
      rw [← this]; rfl
  · cases e
theorem op_pure0 (H : HR base φ h w) {a : Act} {ρ : Rho} (hρ : ∀ x v, ρ x = some v → VR φ w v (a.eval x)) {o : Oper} {r : ANext} (hp : pureL P o = true) (e : aop0 P ρ h o = some r) :
    ValP P φ h w r ((execOp a.eval o).run P w) := by
  unfold pureL at hp
  unfold aop0 opA at e
  unfold execOp
  cases ho : o.op <;> simp only [ho] at e hp ⊢ <;> try (exact absurd hp (by decide))
  case load t x =>
    unfold oLoad at e
    simp only [Option.bind_eq_some_iff] at e
    obtain ⟨p, hp, e⟩ := e
    exact pure_P e fun v hv => loadAt_ok H (hρ _ _ hp) hv
  case convert s d x =>
    unfold oConvert at e
    simp only [Option.bind_eq_some_iff] at e
    obtain ⟨p, hp', e⟩ := e
    exact pairP_P e fun v hv => convertP_ok H (hρ _ _ hp') hv hp
  case unOp op t x =>
    unfold oUn at e
    simp only [Option.bind_eq_some_iff] at e
    obtain ⟨p, hp, e⟩ := e
    exact pure_P e fun v hv => unA_ok (hρ _ _ hp) hv
  case fieldAddr t x f =>
    unfold oFieldAddr at e
    simp only [Option.bind_eq_some_iff] at e
    obtain ⟨p, hp, e⟩ := e
    exact pure_P e fun v hv => fieldAddrA_ok (hρ _ _ hp) hv
  case indexAddr t x i =>
    unfold oIndexAddr at e
    simp only [Option.bind_eq_some_iff] at e
    obtain ⟨p, hp, q, hq, e⟩ := e
    exact pure_P e fun v hv => indexAddrA_ok (hρ _ _ hp) (hρ _ _ hq) hv
  case index t x i =>
    unfold oIndex at e
    simp only [Option.bind_eq_some_iff] at e
    obtain ⟨p, hp, q, hq, e⟩ := e
    exact pure_P e fun v hv => indexA_ok (hρ _ _ hp) (hρ _ _ hq) hv
  case slice t x lo hi mx =>
    unfold oSlice at e
    cases mx with
    | some _ => cases e
    | none =>
    simp only [Option.bind_eq_some_iff] at e
    obtain ⟨p, hp, l1, hl1, l2, hl2, e⟩ := e
    exact pure_P e fun v hv => sliceA_ok (hρ _ _ hp) (opt_R hρ lo hl1) (opt_R hρ hi hl2) hv
  case binOp op t x y u =>
    unfold oBin at e
    simp only [Option.bind_eq_some_iff] at e
    obtain ⟨p, hp, q, hq, e⟩ := e
    exact pure_P e fun v hv => by
      cases hn : nilOk (isConstO x || isConstO y) p q with
      | false => rw [hn] at hv; cases hv
      | true =>
      rw [hn, cond_true] at hv
      obtain ⟨u, h1, h2⟩ := binT_ok (P := P) (hρ _ _ hp) (hρ _ _ hq) hv
      have hg : (eqGuard op t x y (a.eval x) (a.eval y)).run P w = .ok () w := by
        exact guard_ok (hρ _ _ hp) (hρ _ _ hq) hn hv
      exact ⟨u, by simp only [Sem.run_bind, hg, Result.andThen_ok, h1], h2⟩
  case lookup t x i ok =>
    unfold oLookup at e
    split at e
    case h_2 => cases e
    rename_i kt el hu
    simp only [Option.bind_eq_some_iff] at e
    obtain ⟨m, hm, k, hk, e⟩ := e
    exact pure_P e fun v hv => lookup_ok H hu (hρ _ _ hm) (hρ _ _ hk) hv
  case call c =>
    unfold oCall at e
    simp only [Option.bind_eq_some_iff] at e
    obtain ⟨xs, hxs, e⟩ := e
    have hargs := args_all2 hρ c.args hxs
    simp only [resolve]
    generalize c.args.map a.eval = as at hargs ⊢
    split at e
    · rename_i b hc
      rw [hc] at hp
      cases b <;> simp only at hp <;> try (exact absurd hp (by decide))
      simp only [hc, Sem.run_bind, Sem.run_pure, Result.andThen_ok, invoke]
      unfold builtinA one1 at e
      simp only at e
      split at e
      case h_2 => cases e
      simp only [Option.bind_eq_some_iff] at e
      obtain ⟨t, ht, e⟩ := e
      obtain ⟨v, rfl, hv⟩ := one_arr hargs
      have r0 := pure_P (P := P) (φ := φ) (w := w) (h := h) e (s := Builtin.len_ c.argTypes o.type #[v]) fun y hy => len_ok (P := P) (ty := o.type) ht hv hy
      obtain ⟨y, u, q1, q2, q3⟩ := r0
      refine ⟨y, u, q1, ?_, q3⟩
      rw [← q2]
      rfl
    · rename_i x hc; rw [hc] at hp; cases hp
    · cases e
theorem laneR_ok {a : Act} {ρ : Rho} (hρ : ∀ x v, ρ x = some v → VR φ w v (a.eval x)) (n : Nat) (x : Operand) (v : AV) (e : laneR n (Lane.l n) ρ x = some v) : VR φ w v (a.eval x) := by
  unfold laneR at e
  simp only [Option.map_eq_some_iff] at e
  obtain ⟨v0, h1, rfl⟩ := e
  exact (hρ _ _ h1).laneV n
theorem orElseL_some {x y : Option ANext} {r : ANext} (e : orElseL x y = some r) : x = some r ∨ (x = none ∧ y = some r) := by
  cases x with
  | none => exact .inr ⟨rfl, e⟩
  | some x => exact .inl e
theorem lanes_ok (H : HR base φ h w) {a : Act} {ρ : Rho} (hρ : ∀ x v, ρ x = some v → VR φ w v (a.eval x)) {o : Oper} {r : ANext} (e : lanesA P ρ h o = some r) :
    ValP P φ h w r ((execOp a.eval o).run P w) := by
  unfold lanesA at e
  cases hp : pureL P o with
  | false => rw [hp] at e; cases e
  | true =>
  rw [hp, cond_true] at e
  simp only [Option.map_eq_some_iff] at e
  obtain ⟨v, e, rfl⟩ := e
  obtain ⟨n, hn, e⟩ := firstD_some e
  unfold lanesN at e
  simp only [Option.bind_eq_some_iff] at e
  obtain ⟨rs, hrs, hv⟩ := e
  obtain ⟨y, k1, k2⟩ := mapO_at hrs (Lane.l n) (Lane.l n) (range_at (Lane.lt n hn))
  unfold laneV valO at k2
  split at k2
  case h_2 => cases k2
  rename_i v0 h0 hop
  cases k2
  obtain ⟨v1, u, q1, q2, q3⟩ := op_pure0 (H.lane n) (laneR_ok hρ n) hp hop
  cases q1
  exact ⟨v, u, rfl, q2, collapse_ok hv (by rw [mapO_length hrs, List.length_range]; exact k1) q3⟩
theorem op_ok (H : HR base φ h w) {a : Act} {ρ : Rho} (hρ : ∀ x v, ρ x = some v → VR φ w v (a.eval x)) {o : Oper} {r : ANext} (e : aop P ρ h o = some r) :
    NextR P base φ h w r ((execOp a.eval o).run P w) := by
  rcases orElseL_some e with e | ⟨_, e⟩
  · exact op_ok0 H hρ e
  rcases orElseL_some e with e | ⟨_, e⟩
  · exact op_okX H hρ e
  · obtain ⟨v, u, rfl, q2, q3⟩ := lanes_ok H hρ e
    exact ⟨φ, w, u, q2, Step.refl H, q3⟩
theorem laneV_free {ρ : Rho} {o : Oper} (hk : kindA P o = 0) {n j : Nat} {v : AV} (e : laneV P ρ h o n j = some v) (h' : Heap) : laneV P ρ h' o n j = some v := by
  unfold laneV valO at *
  split at e
  case h_2 => cases e
  rename_i v0 h0 hop
  cases e
  obtain ⟨v1, q1, q2⟩ := free_ok0 hk hop
  cases q1
  rw [q2 (projH n j h')]
theorem mapO_congrL {α β : Type} {f g : α → Option β} : ∀ {l : List α} {r : List β}, (∀ x y, f x = some y → g x = some y) → mapO f l = some r → mapO g l = some r
  | [], r, _, e => e
  | x :: l, r, k, e => by
    simp only [mapO, Option.bind_eq_some_iff, Option.some.injEq] at e ⊢
    obtain ⟨y, hy, r', hr, rfl⟩ := e
    exact ⟨y, k _ _ hy, r', mapO_congrL k hr, rfl⟩
theorem free_ok {ρ : Rho} {o : Oper} {r : ANext} (hk : kindA P o = 0) (e : aop P ρ h o = some r) : ∃ v, r = .val v h ∧ ∀ h', aop P ρ h' o = some (.val v h') := by
  rcases orElseL_some e with e | ⟨e0, e⟩
  · obtain ⟨v, q1, q2⟩ := free_ok0 hk e
    exact ⟨v, q1, fun h' => by unfold aop; rw [q2 h']; rfl⟩
  have hn : ∀ h', aop0 P ρ h' o = none := by
    intro h'
    cases q : aop0 P ρ h' o with
    | none => rfl
    | some r' =>
      obtain ⟨_, _, q2⟩ := free_ok0 hk q
      rw [q2 h] at e0; cases e0
  rcases orElseL_some e with e | ⟨e0X, e⟩
  · obtain ⟨v, q1, q2⟩ := free_okX hk e
    exact ⟨v, q1, fun h' => by unfold aop aopY; rw [hn h', q2 h']; rfl⟩
  · unfold lanesA at e
    cases hp : pureL P o with
    | false => rw [hp] at e; cases e
    | true =>
    rw [hp, cond_true] at e
    simp only [Option.map_eq_some_iff] at e
    obtain ⟨v, eD, rfl⟩ := e
    refine ⟨v, rfl, fun h' => ?_⟩
    have hnX : aopX P ρ h' o = none := by
      cases q : aopX P ρ h' o with
      | none => rfl
      | some r' =>
        obtain ⟨_, _, q2⟩ := free_okX hk q
        rw [q2 h] at e0X; cases e0X
    unfold aop aopY lanesA
    have hE : (lanesN P ρ h' o) = (lanesN P ρ h o) := by
      funext n
      unfold lanesN
      have hV : laneV P ρ h' o n = laneV P ρ h o n := by
        funext j
        cases q : laneV P ρ h o n j with
        | some v => exact laneV_free hk q h'
        | none =>
          cases q' : laneV P ρ h' o n j with
          | none => rfl
          | some v => rw [laneV_free hk q' h] at q; cases q
      rw [hV]
    rw [hn h', hnX, hp, cond_true, hE, eD]
    simp only [Option.map_some, orElseL]
theorem read_ok {ρ : Rho} {o : Oper} {r : ANext} (hk : kindA P o = 1) (e : aop P ρ h o = some r) : ∃ v, r = .val v h := by
  rcases orElseL_some e with e | ⟨e0, e⟩
  · exact read_ok0 hk e
  rcases orElseL_some e with e | ⟨_, e⟩
  · exact read_okX hk e
  · unfold lanesA at e
    cases hp : pureL P o with
    | false => rw [hp] at e; cases e
    | true =>
    rw [hp, cond_true] at e
    simp only [Option.map_eq_some_iff] at e
    obtain ⟨v, _, rfl⟩ := e
    exact ⟨v, rfl⟩
end Go.Vai
/- The abstract machine: functions that the model answers by itself. -/
namespace Go.Vai
set_option linter.unusedVariables false
set_option linter.unusedSimpArgs false
set_option linter.unusedSectionVars false
variable [Lane]
variable {P : Program} {base : Nat} {φ φ' φ'' : Emb} {h h' h'' : Heap} {w w' w'' : World}

theorem byteOf_ok {v : AV} {u : Value} {c : UInt8} (hv : VR φ w v u) (e : byteOf v = some c) : ∃ n : Int, u = .int .u8 n ∧ c = n.toNat.toUInt8 := by
  unfold byteOf at e
  split at e
  · rename_i n
    cases e
    cases hv
    exact ⟨n, rfl, rfl⟩
  · cases e
theorem loadBytes_ok (H : HR base φ h w) {a : Loc} {ad : Addr} (k : LR φ a ad) : ∀ (n j : Nat) (vs : List AV) (l : List UInt8) (acc : List UInt8), loadN h a j n = some vs → mapO byteOf vs = some l →
    (Extern.Bytes.loadBytes (ad.add j) n ⟨⟨acc⟩⟩).run P w = .ok ⟨⟨acc ++ l⟩⟩ w
  | 0, j, vs, l, acc, e, e' => by
    simp only [loadN, Option.some.injEq] at e
    subst e
    simp only [mapO, Option.some.injEq] at e'
    subst e'
    simp [Extern.Bytes.loadBytes]
  | n + 1, j, vs, l, acc, e, e' => by
    simp only [loadN, Option.bind_eq_some_iff, Option.some.injEq] at e
    obtain ⟨v, hv, r, hr, rfl⟩ := e
    simp only [mapO, Option.bind_eq_some_iff, Option.some.injEq] at e'
    obtain ⟨c, hc, l', hl', rfl⟩ := e'
    obtain ⟨u, hu, hvr, _⟩ := loadC_cell H k hv
    obtain ⟨m, rfl, rfl⟩ := byteOf_ok hvr hc
    have ih := loadBytes_ok H k n (j + 1) r l' (acc ++ [m.toNat.toUInt8]) hr hl'
    have hadd : (ad.add j).add 1 = ad.add (j + 1) := by
      rw [k.form, add_plain, add_plain, add_plain, Nat.add_assoc]
    unfold Extern.Bytes.loadBytes
    have hl : (load (ad.add j)).run P w = .ok (.int .u8 m) w := by simp only [load, Sem.run, hu]
    simp only [Sem.run_bind, hl, Result.andThen_ok, hadd]
    rw [List.append_assoc] at ih
    have hp : (⟨⟨acc⟩⟩ : ByteArray).push m.toNat.toUInt8 = ⟨⟨acc ++ [m.toNat.toUInt8]⟩⟩ := by
      unfold ByteArray.push; simp
    rw [hp]
    exact ih
theorem bytesOf_ok (H : HR base φ h w) {x : AV} {xv : Value} (hx : VR φ w x xv) {l : List UInt8} (e : bytesO h x = some l) : (Extern.Bytes.bytesOf xv).run P w = .ok ⟨⟨l⟩⟩ w := by
  unfold bytesO at e
  split at e
  · cases e; cases hx; rfl
  · cases e; cases hx; rfl
  · rename_i a n room sz
    split at e
    case isFalse => cases e
    rename_i hsz
    subst hsz
    simp only [Option.bind_eq_some_iff] at e
    obtain ⟨vs, hvs, hl⟩ := e
    cases hx with
    | slice _ ad _ _ _ cap g1 g2 g3 g4 g5 =>
    unfold Extern.Bytes.bytesOf
    rcases g5 with g5 | ⟨g5, _⟩
    · have : n = 0 := by omega
      subst this
      simp only [loadN, Option.some.injEq] at hvs
      subst hvs
      simp only [mapO, Option.some.injEq] at hl
      subst hl
      simp [Extern.Bytes.loadBytes]; rfl
    · have := loadBytes_ok (P := P) H g5 n 0 vs l [] hvs hl
      exact this
  · cases e
theorem findI_range (c : UInt8) : ∀ (l : List UInt8) (k : Nat) (p : Nat → Bool), (∀ i, (hi : i < l.length) → p (k + i) = (l[i] == c)) → (List.range' k l.length).find? p = findI c l k
  | [], k, p, _ => rfl
  | x :: l, k, p, hp => by
    rw [List.length_cons, List.range'_succ, List.find?_cons]
    have h0 := hp 0 (by simp)
    simp only [Nat.add_zero, List.getElem_cons_zero] at h0
    rw [h0]
    unfold findI
    cases x == c with
    | true => rfl
    | false =>
      simp only [cond_false]
      refine findI_range c l (k + 1) p fun i hi => ?_
      have := hp (i + 1) (by simpa using hi)
      rw [show k + 1 + i = k + (i + 1) by omega, this, List.getElem_cons_succ]
theorem indexByte_ok (H : HR base φ h w) {args : List AV} {us : Array Value} (ha : All2 (VR φ w) args us.toList) {r : AV × Heap} (e : indexByteA h args = some r) :
    r.2 = h ∧ ∃ u, (Extern.BytealgIndexByte.indexByte us).run P w = .ok u w ∧ VR φ w r.1 u := by
  unfold indexByteA at e
  split at e
  case h_2 => cases e
  rename_i b c
  simp only [Option.bind_eq_some_iff, Option.map_eq_some_iff] at e
  obtain ⟨l, hl, c', hc, rfl⟩ := e
  obtain ⟨bv, cv, rfl, hb, hcv⟩ := two_arr ha
  refine ⟨rfl, ?_⟩
  have h1 := bytesOf_ok (P := P) H hb hl
  obtain ⟨n, rfl, rfl⟩ := byteOf_ok hcv hc
  have h2 : (Extern.Bytes.asByte (.int .u8 n)).run P w = .ok n.toNat.toUInt8 w := rfl
  have h3 : (List.range (⟨⟨l⟩⟩ : ByteArray).size).find? (fun i => (⟨⟨l⟩⟩ : ByteArray)[i]! == n.toNat.toUInt8) = findI n.toNat.toUInt8 l 0 := by
    have hs : (⟨⟨l⟩⟩ : ByteArray).size = l.length := rfl
    rw [hs, List.range_eq_range']
    refine findI_range _ l 0 _ fun i hi => ?_
    have : (⟨⟨l⟩⟩ : ByteArray)[i]! = l[i] := by
      rw [getElem!_pos (⟨⟨l⟩⟩ : ByteArray) i (by rw [hs]; exact hi)]
      rfl
    rw [Nat.zero_add, this]
  have hd : Extern.BytealgIndexByte.indexByte #[bv, .int .u8 n] = (do
      let b ← Extern.Bytes.bytesOf bv
      let c ← Extern.Bytes.asByte (.int .u8 n)
      match (List.range b.size).find? fun i => b[i]! == c with
      | some i => pure (goInt i)
      | none => pure (goInt (-1))) := rfl
  rw [hd]
  simp only [Sem.run_bind, h1, h2, Result.andThen_ok, h3]
  cases findI n.toNat.toUInt8 l 0 with
  | none => exact ⟨_, rfl, .int _ _⟩
  | some i => exact ⟨_, rfl, .int _ _⟩
theorem bytesV_ok {v : AV} {u : Value} {bs : List UInt8} (hv : VR φ w v u) (e : bytesV v = some bs) : ∃ n : Int, u = .int .u8 n ∧ n.toNat.toUInt8 ∈ bs := by
  unfold bytesV at e
  split at e
  · rename_i c
    cases e; cases hv
    exact ⟨c, rfl, by simp⟩
  · rename_i l
    cases hv with
    | vec _ x _ hl hs k =>
    obtain ⟨y, h1, h2⟩ := mapO_at e _ _ hl
    obtain ⟨n, rfl, rfl⟩ := byteOf_ok k h2
    exact ⟨n, rfl, List.mem_of_getElem? h1⟩
  · cases e
theorem loadBytesV_ok (H : HR base φ h w) {a : Loc} {ad : Addr} (k : LR φ a ad) : ∀ (n j : Nat) (vs : List AV) (bs : List (List UInt8)) (acc : List UInt8), loadN h a j n = some vs → mapO bytesV vs = some bs →
    ∃ l, All2 (fun (b : List UInt8) c => c ∈ b) bs l ∧ (Extern.Bytes.loadBytes (ad.add j) n ⟨⟨acc⟩⟩).run P w = .ok ⟨⟨acc ++ l⟩⟩ w
  | 0, j, vs, bs, acc, e, e' => by
    simp only [loadN, Option.some.injEq] at e
    subst e
    simp only [mapO, Option.some.injEq] at e'
    subst e'
    exact ⟨[], .nil, by simp [Extern.Bytes.loadBytes]⟩
  | n + 1, j, vs, bs, acc, e, e' => by
    simp only [loadN, Option.bind_eq_some_iff, Option.some.injEq] at e
    obtain ⟨v, hv, r, hr, rfl⟩ := e
    simp only [mapO, Option.bind_eq_some_iff, Option.some.injEq] at e'
    obtain ⟨c, hc, l', hl', rfl⟩ := e'
    obtain ⟨u, hu, hvr, _⟩ := loadC_cell H k hv
    obtain ⟨m, rfl, hm⟩ := bytesV_ok hvr hc
    obtain ⟨l, q1, ih⟩ := loadBytesV_ok H k n (j + 1) r l' (acc ++ [m.toNat.toUInt8]) hr hl'
    refine ⟨m.toNat.toUInt8 :: l, .cons hm q1, ?_⟩
    have hadd : (ad.add j).add 1 = ad.add (j + 1) := by
      rw [k.form, add_plain, add_plain, add_plain, Nat.add_assoc]
    unfold Extern.Bytes.loadBytes
    have hl : (load (ad.add j)).run P w = .ok (.int .u8 m) w := by simp only [load, Sem.run, hu]
    simp only [Sem.run_bind, hl, Result.andThen_ok, hadd]
    rw [List.append_assoc] at ih
    have hp : (⟨⟨acc⟩⟩ : ByteArray).push m.toNat.toUInt8 = ⟨⟨acc ++ [m.toNat.toUInt8]⟩⟩ := by
      unfold ByteArray.push; simp
    rw [hp]
    exact ih
theorem findV_ok {c : UInt8} : ∀ {bs : List (List UInt8)} {l : List UInt8} {i : Nat} {r : Option Nat}, All2 (fun (b : List UInt8) c => c ∈ b) bs l → findV c bs i = some r → findI c l i = r
  | [], _, i, r, .nil, e => by cases e; rfl
  | b :: bs, _, i, r, .cons (b := x) (m := l) hx ht, e => by
    unfold findV at e
    unfold findI
    cases h1 : b.all (fun x => !(x == c)) with
    | true =>
      rw [h1, cond_true] at e
      have := List.all_eq_true.1 h1 x hx
      have hxc : (x == c) = false := by simpa using this
      rw [hxc, cond_false]
      exact findV_ok ht e
    | false =>
      rw [h1, cond_false] at e
      cases h2 : b.all (fun x => x == c) with
      | false => rw [h2] at e; cases e
      | true =>
        rw [h2, cond_true] at e
        cases e
        rw [List.all_eq_true.1 h2 x hx]
        rfl
theorem indexByteV_ok (H : HR base φ h w) {args : List AV} {us : Array Value} (ha : All2 (VR φ w) args us.toList) {r : AV × Heap} (e : indexByteV h args = some r) :
    r.2 = h ∧ ∃ u, (Extern.BytealgIndexByte.indexByte us).run P w = .ok u w ∧ VR φ w r.1 u := by
  unfold indexByteV at e
  split at e
  case h_2 => cases e
  rename_i a n room sz c
  split at e
  case isFalse => cases e
  rename_i hsz
  subst hsz
  simp only [Option.bind_eq_some_iff, Option.map_eq_some_iff] at e
  obtain ⟨vs, hvs, bs, hbs, c', hc, ro, hro, rfl⟩ := e
  obtain ⟨bv, cv, rfl, hb, hcv⟩ := two_arr ha
  refine ⟨rfl, ?_⟩
  have key : ∃ l, All2 (fun (b : List UInt8) c => c ∈ b) bs l ∧ (Extern.Bytes.bytesOf bv).run P w = .ok ⟨⟨l⟩⟩ w := by
    cases hb with
    | slice _ ad _ _ _ cap g1 g2 g3 g4 g5 =>
    unfold Extern.Bytes.bytesOf
    rcases g5 with g5 | ⟨g5, _⟩
    · have : n = 0 := by omega
      subst this
      simp only [loadN, Option.some.injEq] at hvs
      subst hvs
      simp only [mapO, Option.some.injEq] at hbs
      subst hbs
      exact ⟨[], .nil, by simp [Extern.Bytes.loadBytes]; rfl⟩
    · obtain ⟨l, q1, q2⟩ := loadBytesV_ok (P := P) H g5 n 0 vs bs [] hvs hbs
      exact ⟨l, q1, q2⟩
  obtain ⟨l, hall, h1⟩ := key
  obtain ⟨n, rfl, rfl⟩ := byteOf_ok hcv hc
  have h2 : (Extern.Bytes.asByte (.int .u8 n)).run P w = .ok n.toNat.toUInt8 w := rfl
  have h3 : (List.range (⟨⟨l⟩⟩ : ByteArray).size).find? (fun i => (⟨⟨l⟩⟩ : ByteArray)[i]! == n.toNat.toUInt8) = ro := by
    rw [← findV_ok hall hro]
    have hs : (⟨⟨l⟩⟩ : ByteArray).size = l.length := rfl
    rw [hs, List.range_eq_range']
    refine findI_range _ l 0 _ fun i hi => ?_
    have : (⟨⟨l⟩⟩ : ByteArray)[i]! = l[i] := by
      rw [getElem!_pos (⟨⟨l⟩⟩ : ByteArray) i (by rw [hs]; exact hi)]
      rfl
    rw [Nat.zero_add, this]
  have hd : Extern.BytealgIndexByte.indexByte #[bv, .int .u8 n] = (do
      let b ← Extern.Bytes.bytesOf bv
      let c ← Extern.Bytes.asByte (.int .u8 n)
      match (List.range b.size).find? fun i => b[i]! == c with
      | some i => pure (goInt i)
      | none => pure (goInt (-1))) := rfl
  rw [hd]
  simp only [Sem.run_bind, h1, h2, Result.andThen_ok, h3]
  cases ro with
  | none => exact ⟨_, rfl, .int _ _⟩
  | some i => exact ⟨_, rfl, .int _ _⟩
theorem next_none {fn : Func} (ho : fn.origin = "") (hn : fn.name = "internal/bytealg.IndexByte" ∨ fn.name = "internal/bytealg.IndexByteString") : Extern.findNext fn = none := by
  have e0 : Extern.allNextRows.lookup "" = none := by kernel_rfl
  have e1 : Extern.allNextRows.lookup "internal/bytealg.IndexByte" = none := by kernel_rfl
  have e2 : Extern.allNextRows.lookup "internal/bytealg.IndexByteString" = none := by kernel_rfl
  unfold Extern.findNext
  rcases hn with hn | hn <;> simp [hn, ho, e0, e1, e2]
theorem find_index {fn : Func} (hn : fn.name = "internal/bytealg.IndexByte" ∨ fn.name = "internal/bytealg.IndexByteString") : Extern.find fn = some Extern.BytealgIndexByte.indexByte := by
  have e1 : Extern.allGenericRows.lookup "internal/bytealg.IndexByte" = none := by kernel_rfl
  have e2 : Extern.allGenericRows.lookup "internal/bytealg.IndexByteString" = none := by kernel_rfl
  have f1 : Extern.allTypedRows.lookup "internal/bytealg.IndexByte" = none := by kernel_rfl
  have f2 : Extern.allTypedRows.lookup "internal/bytealg.IndexByteString" = none := by kernel_rfl
  have g1 : Extern.allRows.lookup "internal/bytealg.IndexByte" = some Extern.BytealgIndexByte.indexByte := by kernel_rfl
  have g2 : Extern.allRows.lookup "internal/bytealg.IndexByteString" = some Extern.BytealgIndexByte.indexByte := by kernel_rfl
  unfold Extern.find
  rcases hn with hn | hn <;> simp [hn, e1, e2, f1, f2, g1, g2]
theorem ext_ok (H : HR base φ h w) {f : FuncId} {fn : Func} (hf : P.funcs[f]? = some fn) (hb : fn.body = none) (hg : (fn.name == "runtime.NumGoroutine") = false) {args : List AV} {us : Array Value} (ha : All2 (VR φ w) args us.toList) {r : AV × Heap} (e : extA fn args h = some r) :
    r.2 = h ∧ ∃ u, (callFunc f us).run P w = .ok (.value u) w ∧ VR φ w r.1 u := by
  unfold extA at e
  split at e
  case isFalse => cases e
  rename_i ho
  have key : ∀ (hn : fn.name = "internal/bytealg.IndexByte" ∨ fn.name = "internal/bytealg.IndexByteString"), indexByteA h args = some r → r.2 = h ∧ ∃ u, (callFunc f us).run P w = .ok (.value u) w ∧ VR φ w r.1 u := by
    intro hn e
    obtain ⟨h1, u, h2, h3⟩ := indexByte_ok (P := P) H ha e
    refine ⟨h1, u, ?_, h3⟩
    have hg' : fn.name ≠ "runtime.NumGoroutine" := by simpa using hg
    unfold callFunc
    simp only [Sem.run_bind, run_program, Result.andThen_ok, hf, hg, Bool.false_eq_true, if_false, hb, Option.isNone_none, if_true, next_none ho hn, find_index hn, h2, Sem.run_pure, run_mark]
  split at e
  · rename_i hn; exact key (.inl hn) e
  · split at e
    · rename_i hn; exact key (.inr hn) e
    · cases e
theorem extW_ok (H : HR base φ h w) {f : FuncId} {fn : Func} (hf : P.funcs[f]? = some fn) (hb : fn.body = none) (hg : (fn.name == "runtime.NumGoroutine") = false) {args : List AV} {us : Array Value} (ha : All2 (VR φ w) args us.toList) {r : AV × Heap} (e : extW fn args h = some r) :
    r.2 = h ∧ ∃ u, (callFunc f us).run P w = .ok (.value u) w ∧ VR φ w r.1 u := by
  unfold extW at e
  split at e
  case isFalse => cases e
  rename_i ho
  have key : ∀ (hn : fn.name = "internal/bytealg.IndexByte" ∨ fn.name = "internal/bytealg.IndexByteString"), indexByteV h args = some r → r.2 = h ∧ ∃ u, (callFunc f us).run P w = .ok (.value u) w ∧ VR φ w r.1 u := by
    intro hn e
    obtain ⟨h1, u, h2, h3⟩ := indexByteV_ok (P := P) H ha e
    refine ⟨h1, u, ?_, h3⟩
    have hg' : fn.name ≠ "runtime.NumGoroutine" := by simpa using hg
    unfold callFunc
    simp only [Sem.run_bind, run_program, Result.andThen_ok, hf, hg, Bool.false_eq_true, if_false, hb, Option.isNone_none, if_true, next_none ho hn, find_index hn, h2, Sem.run_pure, run_mark]
  split at e
  · rename_i hn; exact key (.inl hn) e
  · split at e
    · rename_i hn; exact key (.inr hn) e
    · cases e
theorem extL_ok (H : HR base φ h w) {f : FuncId} {fn : Func} (hf : P.funcs[f]? = some fn) (hb : fn.body = none) (hg : (fn.name == "runtime.NumGoroutine") = false) {args : List AV} {us : Array Value} (ha : All2 (VR φ w) args us.toList) {r : AV × Heap} (e : extL fn args h = some r) :
    r.2 = h ∧ ∃ u, (callFunc f us).run P w = .ok (.value u) w ∧ VR φ w r.1 u := by
  unfold extL at e
  split at e
  · rename_i r' he
    cases e
    exact ext_ok H hf hb hg ha he
  · split at e
    case h_2 => exact extW_ok H hf hb hg ha e
    rename_i r' he
    cases e
    have e := he
    unfold lanesE at e
    simp only [Option.map_eq_some_iff] at e
    obtain ⟨v, e, rfl⟩ := e
    obtain ⟨n, hn, e⟩ := firstD_some e
    simp only [Option.bind_eq_some_iff] at e
    obtain ⟨rs, hrs, hv⟩ := e
    obtain ⟨y, k1, k2⟩ := mapO_at hrs (Lane.l n) (Lane.l n) (range_at (Lane.lt n hn))
    unfold fstO at k2
    split at k2
    case h_2 => cases k2
    rename_i v0 h0 he
    cases k2
    obtain ⟨_, u, q2, q3⟩ := ext_ok (P := P) (H.lane n) hf hb hg (ha.laneV n) he
    exact ⟨rfl, u, q2, collapse_ok hv (by rw [mapO_length hrs, List.length_range]; exact k1) q3⟩
end Go.Vai
