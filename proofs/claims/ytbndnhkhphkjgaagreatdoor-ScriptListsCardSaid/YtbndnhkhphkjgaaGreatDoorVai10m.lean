/- The abstract machine: maps. -/
import Derived.Test.YtbndnhkhphkjgaaGreatDoorVai10
import Derived.Laws.StructEq
namespace Go.Vai
set_option linter.unusedVariables false
set_option linter.unusedSimpArgs false
set_option linter.unusedSectionVars false
variable [Lane]
variable {P : Program} {base : Nat} {φ φ' φ'' : Emb} {h h' h'' : Heap} {w w' w'' : World}

theorem part_ok {t : TypeId} {xs : List AV} {vs : List Value} {off : Nat} {v : AV} (hvs : All2 (VR φ w) xs vs) (e : partA P t xs off = some v) :
    ∃ u, (part t ⟨vs⟩ off).run P w = .ok u w ∧ VR φ w v u := by
  unfold partA at e
  simp only [Option.bind_eq_some_iff] at e
  obtain ⟨g, hg, e⟩ := e
  cases g with
  | true =>
    simp only [if_true, Option.map_eq_some_iff] at e
    obtain ⟨n, hn, rfl⟩ := e
    refine ⟨.agg ⟨(vs.drop off).take n⟩, ?_, .agg _ _ ((hvs.drop _).take _)⟩
    unfold part
    simp only [Sem.run_bind, Result.andThen_ok, run_isAggT hg, if_true, run_sizeT hn, Sem.run_pure]
    congr 2
    simp
  | false =>
    simp only [Bool.false_eq_true, if_false] at e
    obtain ⟨u, h1, h2⟩ := hvs.get _ _ e
    refine ⟨u, ?_, h2⟩
    unfold part
    simp only [Sem.run_bind, Result.andThen_ok, run_isAggT hg, Bool.false_eq_true, if_false]
    have : (⟨vs⟩ : Array Value)[off]? = some u := by simpa using h1
    rw [this]; rfl
theorem eqFs_ok {eq : TypeId → AV → AV → Option Bool} {d : Nat} {xs ys : List AV} {vs us : List Value} (hxs : All2 (VR φ w) xs vs) (hys : All2 (VR φ w) ys us)
    (heq : ∀ t x y b xv yv, eq t x y = some b → VR φ w x xv → VR φ w y yv → (Op.equalIn d t xv yv).run P w = .ok b w) : ∀ (fs : List Field) (b : Bool), eqFs P eq xs ys fs = some b →
    (Op.eqFields d ⟨vs⟩ ⟨us⟩ fs).run P w = .ok b w
  | [], b, e => by cases e; simp [Op.eqFields]
  | f :: fs, b, e => by
    unfold eqFs at e
    unfold Op.eqFields
    by_cases hn : f.name = "_"
    · rw [if_pos hn] at e
      rw [if_neg (by simpa using hn)]
      exact eqFs_ok hxs hys heq fs b e
    · rw [if_neg hn] at e
      rw [if_pos hn]
      simp only [Option.bind_eq_some_iff] at e
      obtain ⟨x, hx, y, hy, c, hc, e⟩ := e
      obtain ⟨xv, p1, p2⟩ := part_ok (P := P) hxs hx
      obtain ⟨yv, q1, q2⟩ := part_ok (P := P) hys hy
      have r := heq _ _ _ _ _ _ hc p2 q2
      simp only [Sem.run_bind, p1, q1, r, Result.andThen_ok]
      cases c with
      | true =>
        simp only [if_true] at e
        simpa using eqFs_ok hxs hys heq fs b e
      | false =>
        simp only [Bool.false_eq_true, if_false, Option.some.injEq] at e
        subst e
        simp
theorem eqIn_ok : ∀ (n : Nat) (t : TypeId) (x y : AV) (b : Bool) (xv yv : Value), eqIn P n t x y = some b → VR φ w x xv → VR φ w y yv → ∀ m, (Op.equalIn (n + m) t xv yv).run P w = .ok b w
  | 0, t, x, y, b, xv, yv, e, _, _, m => by cases e
  | n + 1, t, x, y, b, xv, yv, e, hx, hy, m => by
    unfold eqIn at e
    rw [show n + 1 + m = (n + m) + 1 by omega]
    split at e
    · rename_i hu
      split at e
      case h_2 => cases e
      split at e
      case h_2 => cases e
      cases e; cases hx; cases hy
      exact run_equalIn_bool w _ t _ _ hu
    · rename_i hu
      split at e
      case h_2 => cases e
      split at e
      case h_2 => cases e
      split at e
      case isFalse => cases e
      rename_i hk
      cases e; cases hx; cases hy
      subst hk
      exact run_equalIn_int w _ t _ _ _ _ hu
    · rename_i hu
      split at e
      case h_2 => cases e
      split at e
      case h_2 => cases e
      cases e; cases hx; cases hy
      rename_i l m
      rw [run_equalIn_string w _ t _ _ hu]
      simp [ByteArray.toList_eq]
    · rename_i fs hu
      split at e
      case h_2 => cases e
      split at e
      case h_2 => cases e
      split at e
      case isTrue => cases e
      rename_i hp
      cases hx with
      | agg _ vs hvs =>
      cases hy with
      | agg _ us hus =>
      have hf : P.fieldsOf t = fs := by simp [Program.fieldsOf, hu]
      rw [run_equalIn_struct w (n + m) t ⟨vs⟩ ⟨us⟩ (by rw [hf]; exact hu) (by simpa using hp), hf]
      exact eqFs_ok hvs hus (fun t x y b xv yv k hx hy => eqIn_ok n t x y b xv yv k hx hy m) _ _ e
    · cases e
theorem chk_ok (em : Bool) : ∀ (n : Nat) (t : TypeId) (x : AV) (xv : Value), chkA P n t x = true → VR φ w x xv → ∀ m, (Instr.checkKey em (n + m) t xv).run P w = .ok () w
  | 0, t, x, xv, e, _, m => by cases e
  | n + 1, t, x, xv, e, hx, m => by
    unfold chkA at e
    rw [show n + 1 + m = (n + m) + 1 by omega]
    split at e
    · rename_i hu
      split at e
      case h_2 => cases e
      cases hx
      simp [Instr.checkKey, run_underlying hu]
    · rename_i hu
      split at e
      case h_2 => cases e
      cases hx
      simp [Instr.checkKey, run_underlying hu]
    · rename_i hu
      split at e
      case h_2 => cases e
      cases hx
      simp [Instr.checkKey, run_underlying hu]
    · rename_i fs hu
      split at e
      case h_2 => cases e
      rename_i xs
      cases hx with
      | agg _ vs hvs =>
      unfold Instr.checkKey
      simp only [Sem.run_bind, run_underlying hu, Result.andThen_ok]
      rw [← Array.forIn_toList]
      generalize fs.toList = L at e ⊢
      clear hu
      induction L with
      | nil => simp
      | cons f L ih =>
        unfold chkFs at e
        by_cases hn : f.name = "_"
        · rw [if_pos hn] at e; cases e
        · rw [if_neg hn] at e
          simp only [Bool.and_eq_true] at e
          obtain ⟨e1, e2⟩ := e
          split at e1
          case h_2 => cases e1
          rename_i v hv
          obtain ⟨u, p1, p2⟩ := part_ok (P := P) hvs hv
          have r := chk_ok em n _ _ _ e1 p2 m
          simp only [List.forIn_cons, Sem.run_bind, hn, ne_eq, not_false_eq_true, if_true, Result.andThen_ok, p1, r, Sem.run_pure]
          exact ih e2
    · cases e
theorem eqK_ok {kt : TypeId} {x y : AV} {b : Bool} {xv yv : Value} (e : eqK P kt x y = some b) (hx : VR φ w x xv) (hy : VR φ w y yv) (m : Nat) : (Op.equalIn (5 + m) kt xv yv).run P w = .ok b w := by
  unfold eqK at e
  split at e
  · rename_i b' he
    cases e
    exact eqIn_ok 5 kt x y b xv yv he hx hy m
  · simp only [Option.bind_eq_some_iff] at e
    obtain ⟨rs, hrs, e⟩ := e
    obtain ⟨c, h1, h2⟩ := mapO_at hrs Lane.l Lane.l (range_at Lane.lt)
    have := allSame_at e h1
    subst this
    exact eqIn_ok 5 kt _ _ c xv yv h2 hx.laneV hy.laneV m
theorem chkK_at {kt : TypeId} {k : AV} {kv : Value} (e : chkK P kt k = true) (hk : VR φ w k kv) : ∃ k', chkA P 5 kt k' = true ∧ VR φ w k' kv := by
  unfold chkK at e
  simp only [Bool.or_eq_true] at e
  rcases e with e | e
  · exact ⟨k, e, hk⟩
  · exact ⟨_, List.all_eq_true.1 e Lane.l (List.mem_range.2 Lane.lt), hk.laneV⟩
/-- what is found, and where -/
def FoundR (φ : Emb) (w : World) : Option (Nat × AV) → Option (Nat × Value) → Prop
  | none, none => True
  | some (i, v), some (j, u) => i = j ∧ VR φ w v u
  | _, _ => False
theorem findAsking_ok {kt : TypeId} {k : AV} {kv : Value} (hk : VR φ w k kv) : ∀ {es : List (AV × AV)} {ms : List MapEntry}, All2 (EntR φ w) es ms → ∀ {i : Nat} {r : Option (Nat × AV)}, findM P kt k es i = some r →
    ∃ r', (Instr.findAsking kt kv ms i).run P w = .ok r' w ∧ FoundR φ w r r'
  | [], _, .nil, i, r, e => by
    cases e
    exact ⟨none, by simp [Instr.findAsking], trivial⟩
  | e :: es, _, .cons (b := m) (m := ms) he ht, i, r, hr => by
    unfold findM at hr
    simp only [Option.bind_eq_some_iff] at hr
    obtain ⟨b, hb, hr⟩ := hr
    have q := eqK_ok hb hk he.key 9995
    have q' : (Op.equal kt kv m.key).run P w = .ok b w := q
    unfold Instr.findAsking
    simp only [Sem.run_bind, q', Result.andThen_ok]
    cases b with
    | true =>
      simp only [if_true, Option.some.injEq] at hr
      subst hr
      exact ⟨some (i, m.val), by simp, rfl, he.val⟩
    | false =>
      simp only [Bool.false_eq_true, if_false] at hr
      obtain ⟨r', q1, q2⟩ := findAsking_ok hk ht hr
      exact ⟨r', by simpa using q1, q2⟩
theorem sameNow_eq {kt : TypeId} {d : TypeDesc} (hd : P.underlying kt = some d) {k ek : AV} {kv mk : Value} {b : Bool} (hb : eqIn P 5 kt k ek = some b) (hk : VR φ w k kv) (he1 : VR φ w ek mk) : ∀ c, Instr.sameNow d kv mk = some c → c = b := by
    intro c hc
    unfold eqIn at hb
    rw [hd] at hb
    cases d <;> simp only at hb <;> try (cases hb)
    all_goals
      split at hb
      case h_2 => cases hb
    all_goals
      split at hb
      case h_2 => cases hb
    · cases hb
      generalize kv = q1 at hk hc
      generalize mk = q2 at he1 hc
      cases hk; cases he1
      simpa [Instr.sameNow] using hc.symm
    · split at hb
      case isFalse => cases hb
      cases hb
      generalize kv = q1 at hk hc
      generalize mk = q2 at he1 hc
      cases hk; cases he1
      rename_i hkk
      subst hkk
      simpa [Instr.sameNow] using hc.symm
    · cases hb
      generalize kv = q1 at hk hc
      generalize mk = q2 at he1 hc
      cases hk; cases he1
      simp only [Instr.sameNow, Option.some.injEq] at hc
      rw [← hc]
      rw [beq_toListBytes]; simp [ByteArray.toList_eq]
    · generalize kv = q1 at hk hc
      cases hk
      simp [Instr.sameNow] at hc
/-- the quick way finds the same, where it is taken -/
theorem findNow_ok {kt : TypeId} {d : TypeDesc} (hd : P.underlying kt = some d) {k : AV} {kv : Value} (hk : VR φ w k kv) : ∀ {es : List (AV × AV)} {ms : List MapEntry}, All2 (EntR φ w) es ms → ∀ {i : Nat} {r : Option (Nat × AV)} {r' : Option (Nat × Value)},
    findM P kt k es i = some r → Instr.findNow d kv ms i = some r' → FoundR φ w r r'
  | [], _, .nil, i, r, r', e, e' => by cases e; cases e'; trivial
  | (ek, ev) :: es, _, .cons (b := m) (m := ms) he ht, i, r, r', hr, hr' => by
    unfold findM at hr
    simp only [Option.bind_eq_some_iff] at hr
    obtain ⟨b, hb, hr⟩ := hr
    unfold Instr.findNow at hr'
    have same : ∀ c, Instr.sameNow d kv m.key = some c → c = b := by
      unfold eqK at hb
      split at hb
      · rename_i b' hb'
        cases hb
        exact sameNow_eq hd hb' hk he.key
      · simp only [Option.bind_eq_some_iff] at hb
        obtain ⟨rs, hrs, hb⟩ := hb
        obtain ⟨c, h1, h2⟩ := mapO_at hrs Lane.l Lane.l (range_at Lane.lt)
        have := allSame_at hb h1
        subst this
        exact sameNow_eq hd h2 hk.laneV he.key.laneV
    split at hr'
    · rename_i hc
      have := same _ hc
      subst this
      simp only [if_true, Option.some.injEq] at hr hr'
      subst hr; subst hr'
      exact ⟨rfl, he.val⟩
    · rename_i hc
      have := same _ hc
      subst this
      simp only [Bool.false_eq_true, if_false] at hr
      exact findNow_ok hd hk ht hr hr'
    · cases hr'
theorem findKey_ok {kt : TypeId} {d : TypeDesc} (hd : P.underlying kt = some d) {k : AV} {kv : Value} (hk : VR φ w k kv) {es : List (AV × AV)} {ms : List MapEntry} (hes : All2 (EntR φ w) es ms) {r : Option (Nat × AV)} (e : findM P kt k es 0 = some r) :
    ∃ r', (Instr.findKey kt kv ms).run P w = .ok r' w ∧ FoundR φ w r r' := by
  unfold Instr.findKey
  simp only [Sem.run_bind, run_underlying hd, Result.andThen_ok]
  cases hn : Instr.findNow d kv ms 0 with
  | some r' => exact ⟨r', by simp, findNow_ok hd hk hes e hn⟩
  | none => exact findAsking_ok hk hes e
theorem chk_desc {n : Nat} {t : TypeId} {x : AV} (e : chkA P n t x = true) : ∃ d, P.underlying t = some d := by
  cases n with
  | zero => cases e
  | succ n =>
    unfold chkA at e
    cases hu : P.underlying t with
    | none => rw [hu] at e; cases e
    | some d => exact ⟨d, rfl⟩
theorem ents_ok (H : HR base φ h w) {m : AV} {mv : Value} (hm : VR φ w m mv) {es : List (AV × AV)} (e : entsA h m = some es) :
    ∃ ms : Array MapEntry, All2 (EntR φ w) es ms.toList ∧ ((m = .map none ∧ mv = .map none ∧ ms = #[]) ∨
      ∃ b c, m = .map (some b) ∧ mv = .map (some c.cb) ∧ φ b 0 = some c ∧ h.objs.get b = some (.map es) ∧ w.heap[c.cb]? = some (.map ms ms.size) ∧ (∀ (i : Nat) (x : MapEntry), ms[i]? = some x → x.born = i)) := by
  unfold entsA at e
  split at e
  · cases e; cases hm; exact ⟨#[], .nil, .inl ⟨rfl, rfl, rfl⟩⟩
  · rename_i b
    split at e
    case h_2 => cases e
    rename_i es' hg
    cases e
    cases hm with
    | map _ c hc =>
    obtain ⟨_, _, o, q3, q4⟩ := H.other _ _ _ _ hg rfl hc
    cases q4 with
    | map _ ms k1 k2 => exact ⟨ms, k1, .inr ⟨b, c, rfl, rfl, hc, hg, q3, k2⟩⟩
  · cases e
theorem lookup_ok (H : HR base φ h w) {t kt el : TypeId} (hu : P.underlying t = some (.map kt el)) {m k v : AV} {mv kv : Value} {ok : Bool} (hm : VR φ w m mv) (hk : VR φ w k kv) (e : lookV P h kt el ok m k = some v) :
    ∃ u, (Instr.lookup t mv kv ok).run P w = .ok u w ∧ VR φ w v u := by
  unfold lookV at e
  simp only [Option.bind_eq_some_iff] at e
  obtain ⟨es, he, e⟩ := e
  cases hc : chkK P kt k with
  | false => rw [hc] at e; cases e
  | true =>
  rw [hc, cond_true] at e
  simp only [Option.bind_eq_some_iff, Option.map_eq_some_iff] at e
  obtain ⟨r, hr, z, hz, rfl⟩ := e
  obtain ⟨ms, k1, k2⟩ := ents_ok H hm he
  obtain ⟨k', hc', hk'⟩ := chkK_at hc hk
  obtain ⟨d, hd⟩ := chk_desc hc'
  obtain ⟨r', q1, q2⟩ := findKey_ok hd hk k1 hr
  have hck := chk_ok (P := P) ms.isEmpty 5 kt k' kv hc' hk' 9995
  obtain ⟨zv, z1, z2⟩ := run_zeroT' hz
  have hget : (match mv with
      | .map none => pure #[]
      | .map (some r) => do
        let .map es _ ← getObj r | stuck "Lookup: map expected"
        pure es
      | _ => stuck "Lookup: map expected" : Sem (Array MapEntry)).run P w = .ok ms w := by
    rcases k2 with ⟨_, rfl, rfl⟩ | ⟨b, c, _, rfl, _, _, k3, _⟩
    · rfl
    · simp [getObj, Sem.run, k3]
  unfold Instr.lookup
  simp only [Sem.run_bind, run_underlying hu, Result.andThen_ok]
  have hck' : (Instr.checkKey ms.isEmpty 10000 kt kv).run P w = .ok () w := hck
  cases r with
  | none =>
    cases r' with
    | some _ => exact q2.elim
    | none =>
      refine ⟨if ok then .tuple #[zv, .bool false] else zv, ?_, ?_⟩
      · rcases k2 with ⟨_, rfl, rfl⟩ | ⟨b, c, _, rfl, _, _, k3, _⟩
        · simp only [Sem.run_pure, Result.andThen_ok, Sem.run_bind, hck', q1, z1]
        · simp only [getObj, Sem.run, k3, Sem.run_bind, Result.andThen_ok, Sem.run_pure, hck', q1, z1]
      · cases ok
        · exact z2 φ w
        · exact .tup _ _ (.cons (z2 φ w) (.cons (.bool _) .nil))
  | some p =>
    obtain ⟨i, v⟩ := p
    cases r' with
    | none => exact q2.elim
    | some p' =>
      obtain ⟨j, u⟩ := p'
      obtain ⟨_, hv⟩ := q2
      refine ⟨if ok then .tuple #[u, .bool true] else u, ?_, ?_⟩
      · rcases k2 with ⟨_, rfl, rfl⟩ | ⟨b, c, _, rfl, _, _, k3, _⟩
        · simp only [Sem.run_pure, Result.andThen_ok, Sem.run_bind, hck', q1, z1]
        · simp only [getObj, Sem.run, k3, Sem.run_bind, Result.andThen_ok, Sem.run_pure, hck', q1, z1]
      · cases ok
        · exact hv
        · exact .tup _ _ (.cons hv (.cons (.bool _) .nil))
theorem scalar1_fun {x : AV} {u v : Value} (hs : scalar1 x = true) (h1 : VR φ w x u) (h2 : VR φ w x v) : u = v := by
  cases h1 <;> cases h2 <;> first | rfl | (simp [scalar1] at hs)
theorem scalar2_at {x : AV} {u : Value} (hs : scalar2 x = true) (h1 : VR φ w x u) : scalar1 (atL Lane.l x) = true := by
  cases h1 with
  | vec l y _ hl h2 k =>
    show scalar1 (l.getD Lane.l .any) = true
    rw [List.getD_eq_getElem?_getD, hl]
    exact List.all_eq_true.1 hs _ (List.mem_of_getElem? hl)
  | _ => exact hs
theorem scalar2_fun {x : AV} {u v : Value} (hs : scalar2 x = true) (h1 : VR φ w x u) (h2 : VR φ w x v) : u = v := scalar1_fun (scalar2_at hs h1) h1.lane h2.lane
theorem scalarL_fun : ∀ {l : List AV} {us vs : List Value}, l.all scalar2 = true → All2 (VR φ w) l us → All2 (VR φ w) l vs → us = vs
  | [], _, _, _, .nil, .nil => rfl
  | x :: l, _, _, hs, .cons h1 t1, .cons h2 t2 => by
    simp only [List.all_cons, Bool.and_eq_true] at hs
    rw [scalar2_fun hs.1 h1 h2, scalarL_fun hs.2 t1 t2]
theorem scalarV_fun {x : AV} {u v : Value} (hs : scalarV x = true) (h1 : VR φ w x u) (h2 : VR φ w x v) : u = v := by
  cases x with
  | agg l =>
    cases h1 with
    | agg _ us h1 =>
    cases h2 with
    | agg _ vs h2 => rw [scalarL_fun hs h1 h2]
  | _ => exact scalar2_fun (by simpa only [scalarV] using hs) h1 h2
theorem sameBits_scalar1 {x : AV} {u : Value} (hs : scalar1 x = true) (h1 : VR φ w x u) (n : Nat) : Instr.sameBits n u u = true := by
  cases h1 <;> first | (simp [scalar1] at hs; done) | (cases n <;> simp [Instr.sameBits, beq_toListBytes])
theorem sameBits_scalar2 {x : AV} {u : Value} (hs : scalar2 x = true) (h1 : VR φ w x u) (n : Nat) : Instr.sameBits n u u = true := sameBits_scalar1 (scalar2_at hs h1) h1.lane n
theorem sameBits_scalarV {x : AV} {u : Value} (hs : scalarV x = true) (h1 : VR φ w x u) (n : Nat) : Instr.sameBits (n + 1) u u = true := by
  cases x with
  | agg l =>
    cases h1 with
    | agg _ us h1 =>
      simp only [Instr.sameBits, beq_self_eq_true, Bool.true_and]
      have key : ∀ {l : List AV} {us : List Value}, l.all scalar2 = true → All2 (VR φ w) l us → ((us.zip us).all fun (x, y) => Instr.sameBits n x y) = true := by
        intro l us hs h1
        induction h1 with
        | nil => rfl
        | cons h t ih =>
          simp only [List.all_cons, Bool.and_eq_true] at hs
          simp only [List.zip_cons_cons, List.all_cons, Bool.and_eq_true]
          exact ⟨sameBits_scalar2 hs.1 h n, ih hs.2⟩
      exact key hs h1
  | _ => exact sameBits_scalar2 (by simpa only [scalarV] using hs) h1 (n + 1)
theorem All2.modify {α β : Type} {R : α → β → Prop} : ∀ {l : List α} {m : List β}, All2 R l m → ∀ (i : Nat) (f : α → α) (g : β → β), (∀ a b, l[i]? = some a → m[i]? = some b → R (f a) (g b)) → All2 R (l.modify i f) (m.modify i g)
  | _, _, .nil, i, f, g, _ => by simp; exact .nil
  | _, _, .cons h t, 0, f, g, k => by simpa using All2.cons (k _ _ rfl rfl) t
  | _, _, .cons h t, i + 1, f, g, k => by
    simp only [List.modify_succ_cons]
    exact .cons h (t.modify i f g fun a b h1 h2 => k a b (by simpa using h1) (by simpa using h2))
theorem putE_modify (k v : AV) : ∀ (i : Nat) (es : List (AV × AV)), putE k v i es = es.modify i fun _ => (k, v)
  | i, [] => by cases i <;> rfl
  | 0, e :: es => rfl
  | i + 1, e :: es => by simp [putE, putE_modify k v i es]
theorem findM_at {kt : TypeId} {k : AV} : ∀ {es : List (AV × AV)} {i j : Nat} {v : AV}, findM P kt k es i = some (some (j, v)) → i ≤ j ∧ ∃ e, es[j - i]? = some e
  | [], i, j, v, e => by cases e
  | x :: es, i, j, v, e => by
    unfold findM at e
    simp only [Option.bind_eq_some_iff] at e
    obtain ⟨b, _, e⟩ := e
    cases b with
    | true =>
      simp only [if_true, Option.some.injEq, Prod.mk.injEq] at e
      obtain ⟨rfl, _⟩ := e
      exact ⟨Nat.le_refl _, x, by simp⟩
    | false =>
      simp only [Bool.false_eq_true, if_false] at e
      obtain ⟨h1, y, h2⟩ := findM_at e
      exact ⟨by omega, y, by rw [show j - i = (j - (i + 1)) + 1 by omega]; simpa using h2⟩
theorem clear_ok (H : HR base φ h w) {ts : Array TypeId} {t ty : TypeId} (h0 : ts[0]? = some t) {x : AV} {xv : Value} (hx : VR φ w x xv) {r : ANext} (e : clearA P t h x = some r) :
    ∃ v h' φ' w' u, r = .val v h' ∧ (Builtin.clear_ ts ty #[xv]).run P w = .ok u w' ∧ Step base φ h w φ' h' w' ∧ VR φ' w' v u := by
  unfold clearA at e
  split at e
  case h_2 => cases e
  rename_i el hu
  split at e
  · cases e
    cases hx
    exact ⟨_, _, φ, w, .tuple #[], rfl, by simp [Builtin.clear_, h0, run_underlying hu], Step.refl H, .tup [] [] .nil⟩
  · rename_i a n room sz
    simp only [Option.bind_eq_some_iff] at e
    obtain ⟨size, hs, z, hz, e⟩ := e
    split at e
    case isFalse => cases e
    rename_i hc
    simp only [Option.map_eq_some_iff] at e
    obtain ⟨h', hst, rfl⟩ := e
    cases hx with
    | slice _ ad _ _ _ cap g1 g2 g3 g4 g5 =>
    obtain ⟨zv, z1, z2⟩ := run_zeroT' hz
    by_cases hn : n = 0
    · subst hn
      simp only [reps, storeN, Option.some.injEq] at hst
      subst hst
      exact ⟨_, _, φ, w, .tuple #[], rfl, by simp [Builtin.clear_, h0, run_underlying hu], Step.refl H, .tup [] [] .nil⟩
    · have g5' := g5.resolve_left (by omega)
      obtain ⟨w', q1, q2, _⟩ := storeN_cells (P := P) H g5'.1 (rep_zero (z2 φ w) n) 0 hst
      refine ⟨_, _, φ, w', .tuple #[], rfl, ?_, q2, .tup [] [] .nil⟩
      obtain ⟨n, rfl⟩ : ∃ m, n = m + 1 := ⟨n - 1, by omega⟩
      have q1' : (storeCells ad (Builtin.zeroCells zv.cells (n + 1)).toList).run P w = .ok () w' := q1
      simp [Builtin.clear_, h0, run_underlying hu, z1, q1']
  · cases e
theorem makeMap_ok (H : HR base φ h w) {t : TypeId} {r : ANext} (e : (newObj h (.map [])).map mapOf = some r) :
    ∃ v h' φ' w' u, r = .val v h' ∧ (Instr.makeMap t none).run P w = .ok u w' ∧ Step base φ h w φ' h' w' ∧ VR φ' w' v u := by
  simp only [Option.map_eq_some_iff, newObj, Option.bind_eq_some_iff, Option.some.injEq] at e
  obtain ⟨r', ⟨os, ho, rfl⟩, rfl⟩ := e
  have st := new_step H (.map []) (.map #[] 0) os ho 1 (.inr ⟨rfl, .map [] #[] .nil (by simp)⟩)
  refine ⟨_, _, _, _, .map (some w.heap.size), rfl, ?_, st, ?_⟩
  · simp [Instr.makeMap]
  · exact .map h.next ⟨w.heap.size, 0, 0, 1⟩ (addE_same _ _ _ _)
theorem update_ok (H : HR base φ h w) {t kt el : TypeId} (hu : P.underlying t = some (.map kt el)) {m k v : AV} {mv kv vv : Value} {h' : Heap} (hm : VR φ w m mv) (hk : VR φ w k kv) (hv : VR φ w v vv) (e : updV P h kt m k v = some h') :
    ∃ w', (Instr.mapUpdate t mv kv vv).run P w = .ok () w' ∧ Step base φ h w φ h' w' := by
  unfold updV at e
  split at e
  case h_2 => cases e
  rename_i b
  split at e
  case h_2 => cases e
  rename_i es hg
  cases hc : chkK P kt k && scalarV k with
  | false => rw [hc] at e; cases e
  | true =>
  rw [hc, cond_true] at e
  simp only [Bool.and_eq_true] at hc
  obtain ⟨hc1, hc2⟩ := hc
  simp only [Option.bind_eq_some_iff, Option.map_eq_some_iff] at e
  obtain ⟨r, hr, es', hes', os, ho, rfl⟩ := e
  cases hm with
  | map _ c hcc =>
  obtain ⟨_, _, o, q3, q4⟩ := H.other _ _ _ _ hg rfl hcc
  cases q4 with
  | map _ ms k1 k2 =>
  obtain ⟨k', hc', hk'⟩ := chkK_at hc1 hk
  obtain ⟨d, hd⟩ := chk_desc hc'
  obtain ⟨r', f1, f2⟩ := findKey_ok hd hk k1 hr
  have hck : (Instr.checkKey false 10000 kt kv).run P w = .ok () w := chk_ok (P := P) false 5 kt k' kv hc' hk' 9995
  cases r with
  | none =>
    cases r' with
    | some _ => exact f2.elim
    | none =>
      simp only [Option.some.injEq] at hes'
      subst hes'
      refine ⟨setBlock w c.cb (.map (ms.push { key := kv, val := vv, born := ms.size }) (ms.size + 1)), ?_, ?_⟩
      · simp only [Instr.mapUpdate, Sem.run_bind, run_underlying hu, getObj, Sem.run, q3, Result.andThen_ok, hck, f1, setObj, Sem.run_pure]
        rfl
      · refine obj_step H hg rfl (by simp) hcc ho rfl ?_
        have := ObjR.map (φ := φ) (w := w) (es ++ [(k, v)]) (ms.push { key := kv, val := vv, born := ms.size }) (by rw [Array.toList_push]; exact k1.append (.cons ⟨hk, hv⟩ .nil)) (by
          intro i x hx
          rw [Array.getElem?_push] at hx
          split at hx
          · rename_i q; cases hx; exact q.symm
          · exact k2 i x hx)
        rwa [Array.size_push] at this
  | some p =>
    obtain ⟨i, v0⟩ := p
    cases r' with
    | none => exact f2.elim
    | some p' =>
      obtain ⟨j, u0⟩ := p'
      obtain ⟨rfl, _⟩ := f2
      simp only at hes'
      split at hes'
      case h_2 => cases hes'
      rename_i e0 he0
      split at hes'
      case isFalse => cases hes'
      rename_i hsame
      cases hes'
      have hke := sameV_eq hsame
      obtain ⟨x0, hx0, hx1⟩ := k1.get i _ he0
      have hx0' : ms[i]? = some x0 := by simpa using hx0
      have hkv : x0.key = kv := scalarV_fun hc2 (by rw [hke]; exact hx1.key) hk
      have hstay : (Instr.keyThatStays (((ms[i]?).map (·.key)).getD kv) kv).run P w = .ok kv w := by
        rw [hx0']
        simp only [Option.map_some, Option.getD_some, hkv]
        unfold Instr.keyThatStays
        rw [if_pos (sameBits_scalarV hc2 hk 9999)]
        rfl
      refine ⟨setBlock w c.cb (.map (ms.modify i fun e => { e with key := kv, val := vv }) ms.size), ?_, ?_⟩
      · simp only [Instr.mapUpdate, Sem.run_bind, run_underlying hu, getObj, Sem.run, q3, Result.andThen_ok, hck, f1, hstay, setObj, Sem.run_pure]
        rfl
      · refine obj_step H hg rfl (by simp) hcc ho rfl ?_
        have := ObjR.map (φ := φ) (w := w) (putE k v i es) (ms.modify i fun e => { e with key := kv, val := vv }) (by
          rw [putE_modify, Array.toList_modify]
          exact k1.modify i _ _ fun a b h1 h2 => ⟨hk, hv⟩) (by
          intro n x hx
          rw [Array.getElem?_modify] at hx
          split at hx
          · rename_i q
            simp only [Option.map_eq_some_iff] at hx
            obtain ⟨y, hy, rfl⟩ := hx
            exact k2 n y hy
          · exact k2 n x hx)
        rwa [Array.size_modify] at this
end Go.Vai
