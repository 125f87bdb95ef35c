/- The abstract machine: operations more: structs held against each other, slices with three numbers, a map's entry. -/
import Derived.Test.YtbndnhkhphkjgaaGreatDoorVai11k
namespace Go.Vai
set_option linter.unusedVariables false
set_option linter.unusedSimpArgs false
set_option linter.unusedSectionVars false
variable [Lane]
variable {P : Program} {base : Nat} {φ φ' φ'' : Emb} {h h' h'' : Heap} {w w' w'' : World}
theorem eqS_ok {op : BinOp} {t : TypeId} {x y : Operand} {p q v : AV} {pv qv : Value} (hp : VR φ w p pv) (hq : VR φ w q qv) (e : eqS P op t p q = some v) :
    ∃ u, (do eqGuard op t x y pv qv; Go.binOp op t pv qv : Sem Value).run P w = .ok u w ∧ VR φ w v u := by
  unfold eqS at e
  split at e
  case h_2 => cases e
  split at e
  case h_2 => cases e
  rename_i xs ys
  cases hg : P.eqGuardType P.depth t with
  | true => rw [hg] at e; cases e
  | false =>
  rw [hg, cond_false] at e
  simp only [Option.bind_eq_some_iff] at e
  obtain ⟨c, hc, e⟩ := e
  cases hp with
  | agg _ vs hvs =>
  cases hq with
  | agg _ us hus =>
  have heq : (Op.equal t (.agg ⟨vs⟩) (.agg ⟨us⟩)).run P w = .ok c w := eqIn_ok 5 t _ _ c _ _ hc (.agg _ _ hvs) (.agg _ _ hus) 9995
  have hG : (eqGuard op t x y (.agg ⟨vs⟩) (.agg ⟨us⟩)).run P w = .ok () w := by
    unfold eqGuard
    cases op <;> simp [hg]
  split at e
  · cases e
    exact ⟨.bool c, by simp only [Sem.run_bind, hG, Result.andThen_ok, Go.binOp, heq]; rfl, .bool _⟩
  · cases e
    exact ⟨.bool (!c), by simp only [Sem.run_bind, hG, Result.andThen_ok, Go.binOp, heq]; rfl, .bool _⟩
  · cases e
theorem slice3A_ok {t : TypeId} {x v : AV} {xv hv mv : Value} {lo : Option AV} {hi mx : AV} {lov : Option Value} (hx : VR φ w x xv) (hlo : OptR φ w lo lov) (hhi : VR φ w hi hv) (hmx : VR φ w mx mv) (e : slice3A P t x lo hi mx = some v) :
    ∃ u, (Instr.sliceAt t xv lov (some hv) (some mv)).run P w = .ok u w ∧ VR φ w v u := by
  unfold slice3A at e
  split at e
  case h_2 => cases e
  rename_i el hu
  split at e
  case h_2 => cases e
  rename_i a len room sz
  simp only [Option.bind_eq_some_iff] at e
  obtain ⟨n, hn, e⟩ := e
  split at e
  case isFalse => cases e
  rename_i hsz
  subst hsz
  simp only [Option.bind_eq_some_iff, Option.some.injEq] at e
  obtain ⟨m, hm, k1, hk1, k, hk, rfl⟩ := e
  cases hx with
  | slice _ ad _ _ _ cap hn' hr hz he hh =>
  have hm' : m ≤ room := by
    unfold boundA at hm
    split at hm
    · split at hm
      · cases hm; omega
      · cases hm
    · cases hm
  have b0 : (Instr.sliceBound mv cap .slice3Acap).run P w = .ok m w := by
    unfold boundA at hm
    split at hm
    · split at hm
      · rename_i i hi'
        cases hm; cases hmx
        have : 0 ≤ i ∧ i ≤ (cap : Int) := by omega
        simp [Instr.sliceBound, asIntOf, this]
      · cases hm
    · cases hm
  obtain ⟨b1, c1⟩ := boundA_ok (P := P) hhi hk1 .slice3B
  have b2 : (match lov with | some v => Instr.sliceBound v k1 .slice3C | none => pure 0 : Sem Nat).run P w = .ok k w ∧ k ≤ k1 := by
    cases hlo with
    | none => simp only [hiA, Option.some.injEq] at hk; subst hk; exact ⟨rfl, Nat.zero_le _⟩
    | some hx => exact boundA_ok hx hk _
  obtain ⟨b2, c2⟩ := b2
  refine ⟨.slice (some (if m = k then ad else ad.add (k * n))) (k1 - k) (m - k), ?_, ?_⟩
  · unfold Instr.sliceAt
    simp only [Sem.run_bind, run_underlying hu, Result.andThen_ok]
    unfold Instr.slice
    simp only [Sem.run_bind, run_underlying hu, Result.andThen_ok]
    have hb : (Instr.sliceBounds true len cap lov (some hv) (some mv)).run P w = .ok (k, k1, m) w := by
      unfold Instr.sliceBounds
      cases hlo <;> simp_all
    simp only [hb, run_sizeT hn, Result.andThen_ok, Sem.run_pure]
    split <;> rfl
  · have hle : a.i + k * n + (m - k) * n ≤ a.e := by
      have : k * n + (m - k) * n = m * n := by rw [← Nat.add_mul]; congr 1; omega
      have : m * n ≤ room * n := Nat.mul_le_mul_right _ hm'
      omega
    refine .slice _ _ _ _ _ _ (by omega) (Nat.le_refl _) hz hle ?_
    by_cases hmk : m = k
    · exact .inl (by omega)
    · rw [if_neg hmk]
      rcases hh with hh | ⟨h1, h2⟩
      · exact .inl (by omega)
      · right
        refine ⟨h1.shift _, ?_⟩
        obtain ⟨o1, o2⟩ := h1.add_off (k * n)
        rw [o1, o2]
        obtain ⟨arr, t', fz, p1, p2, p3⟩ := h2
        refine ⟨arr, t', fz, p1, ?_, p3⟩
        have : k * n + (m - k) * n = m * n := by rw [← Nat.add_mul]; congr 1; omega
        have : m * n ≤ cap * n := Nat.mul_le_mul_right _ (Nat.le_trans hm' hr)
        omega
theorem mapEntry_ok (H : HR base φ h w) {t kt el : TypeId} (hu : P.underlying t = some (.map kt el)) {m k : AV} {mv kv : Value} {r : AV × Heap} (hm : VR φ w m mv) (hk : VR φ w k kv) (e : entV P h kt el m k = some r) :
    ∃ w' u, (Instr.mapEntry t mv kv).run P w = .ok u w' ∧ Step base φ h w φ r.2 w' ∧ VR φ w' r.1 u := by
  unfold entV at e
  split at e
  case h_2 => cases e
  rename_i b
  split at e
  case h_2 => cases e
  rename_i es hg
  cases hc : chkK P kt k && scalarV k with
  | false => rw [hc] at e; cases e
  | true =>
  rw [hc, cond_true] at e
  simp only [Bool.and_eq_true] at hc
  obtain ⟨hc1, hc2⟩ := hc
  simp only [Option.bind_eq_some_iff, Option.map_eq_some_iff] at e
  obtain ⟨r0, hr, x1, hx1, os, ho, rfl⟩ := e
  cases hm with
  | map _ c hcc =>
  obtain ⟨_, _, o, q3, q4⟩ := H.other _ _ _ _ hg rfl hcc
  cases q4 with
  | map _ ms k1 k2 =>
  obtain ⟨k', hc', hk'⟩ := chkK_at hc1 hk
  obtain ⟨d, hd⟩ := chk_desc hc'
  obtain ⟨r', f1, f2⟩ := findKey_ok hd hk k1 hr
  have hck : (Instr.checkKey false 10000 kt kv).run P w = .ok () w := chk_ok (P := P) false 5 kt k' kv hc' hk' 9995
  have hlen : ms.size = es.length := by rw [k1.length, Array.length_toList]
  cases r0 with
  | none =>
    cases r' with
    | some _ => exact f2.elim
    | none =>
      simp only [Option.map_eq_some_iff] at hx1
      obtain ⟨z, hz, rfl⟩ := hx1
      obtain ⟨zv, z1, z2⟩ := run_zeroT' hz
      have hs : Step base φ h w φ { h with objs := os } (setBlock w c.cb (.map (ms.push { key := kv, val := zv, born := ms.size }) (ms.size + 1))) := by
        refine obj_step H hg rfl (by simp) hcc ho rfl ?_
        have := ObjR.map (φ := φ) (w := w) (es ++ [(k, z)]) (ms.push { key := kv, val := zv, born := ms.size }) (by rw [Array.toList_push]; exact k1.append (.cons ⟨hk, z2 φ w⟩ .nil)) (by
          intro i x hx
          rw [Array.getElem?_push] at hx
          split at hx
          · rename_i q; cases hx; exact q.symm
          · exact k2 i x hx)
        rwa [Array.size_push] at this
      refine ⟨_, .tuple #[zv, .int .i64 (ms.size : Nat)], ?_, hs, .tup _ _ (.cons (z2 φ _) (.cons (by rw [hlen]; exact .int _ _) .nil))⟩
      simp only [Instr.mapEntry, Sem.run_bind, run_underlying hu, getObj, Sem.run, q3, Result.andThen_ok, hck, f1, z1, setObj, Sem.run_pure]
      rfl
  | some p =>
    obtain ⟨i, v0⟩ := p
    cases r' with
    | none => exact f2.elim
    | some p' =>
      obtain ⟨j, u0⟩ := p'
      obtain ⟨rfl, hv0⟩ := f2
      simp only at hx1
      split at hx1
      case h_2 => cases hx1
      rename_i e0 he0
      split at hx1
      case isFalse => cases hx1
      rename_i hsame
      cases hx1
      simp only [Bool.and_eq_true] at hsame
      have hke := sameV_eq hsame.1
      have hve := sameV_eq hsame.2
      obtain ⟨x0, hx0, hx1⟩ := k1.get i _ he0
      have hx0' : ms[i]? = some x0 := by simpa using hx0
      have hkv : x0.key = kv := scalarV_fun hc2 (by rw [hke]; exact hx1.key) hk
      have hstay : (Instr.keyThatStays (((ms[i]?).map (·.key)).getD kv) kv).run P w = .ok kv w := by
        rw [hx0']
        simp only [Option.map_some, Option.getD_some, hkv]
        unfold Instr.keyThatStays
        rw [if_pos (sameBits_scalarV hc2 hk 9999)]
        rfl
      have hs : Step base φ h w φ { h with objs := os } (setBlock w c.cb (.map (ms.modify i fun e => { e with key := kv }) ms.size)) := by
        refine obj_step H hg rfl (by simp) hcc ho rfl ?_
        have := ObjR.map (φ := φ) (w := w) (putE k v0 i es) (ms.modify i fun e => { e with key := kv }) (by
          rw [putE_modify, Array.toList_modify]
          refine k1.modify i _ _ fun a b h1 h2 => ⟨hk, ?_⟩
          rw [he0] at h1
          cases h1
          have h2' : ms[i]? = some b := by simpa using h2
          rw [hx0'] at h2'
          cases h2'
          show VR φ w v0 x0.val
          rw [hve]; exact hx1.val) (by
          intro n x hx
          rw [Array.getElem?_modify] at hx
          split at hx
          · rename_i q
            simp only [Option.map_eq_some_iff] at hx
            obtain ⟨y, hy, rfl⟩ := hx
            exact k2 n y hy
          · exact k2 n x hx)
        rwa [Array.size_modify] at this
      refine ⟨_, .tuple #[u0, .int .i64 (i : Nat)], ?_, hs, .tup _ _ (.cons (hv0.mono hs.ext hs.rows) (.cons (.int _ _) .nil))⟩
      have hborn : x0.born = i := k2 i x0 hx0'
      have hbg : ((ms[i]?).map (fun e => (e.born : Int))).getD 0 = (i : Int) := by rw [hx0']; simp [hborn]
      simp only [Instr.mapEntry, Sem.run_bind, run_underlying hu, getObj, Sem.run, q3, Result.andThen_ok, hck, f1, hstay, setObj, Sem.run_pure, hbg]
      rfl
theorem findIdx_born {ms : Array MapEntry} (hb : ∀ (i : Nat) (m : MapEntry), ms[i]? = some m → m.born = i) {j : Nat} {m : MapEntry} (hj : ms[j]? = some m) : ms.findIdx? (fun e => (e.born : Int) == (j : Int)) = some j := by
  rw [Array.findIdx?_eq_some_iff_getElem]
  obtain ⟨hlt, hget⟩ := Array.getElem?_eq_some_iff.1 hj
  refine ⟨hlt, ?_, fun i hi => ?_⟩
  · rw [hget, hb j m hj]; simp
  · have := hb i ms[i] (Array.getElem?_eq_getElem _)
    rw [this]
    have : (i : Int) ≠ (j : Int) := by omega
    simpa using this
theorem entryStore_ok (H : HR base φ h w) {t : TypeId} {m s v : AV} {mv sv vv : Value} {h' : Heap} (hm : VR φ w m mv) (hs : VR φ w s sv) (hv : VR φ w v vv) (e : storV h m s v = some h') :
    ∃ w', (Instr.entryStore t mv sv vv).run P w = .ok () w' ∧ Step base φ h w φ h' w' := by
  unfold storV at e
  split at e
  case h_2 => cases e
  rename_i b
  split at e
  case h_2 => cases e
  rename_i es hg
  split at e
  case h_2 => cases e
  rename_i kd i
  split at e
  case h_2 => cases e
  rename_i e0 he0
  simp only [Option.map_eq_some_iff] at e
  obtain ⟨os, ho, rfl⟩ := e
  cases hs
  cases hm with
  | map _ c hcc =>
  obtain ⟨_, _, o, q3, q4⟩ := H.other _ _ _ _ hg rfl hcc
  cases q4 with
  | map _ ms k1 k2 =>
  obtain ⟨x0, hx0, hx1⟩ := k1.get i _ he0
  have hx0' : ms[i]? = some x0 := by simpa using hx0
  have hfi := findIdx_born k2 hx0'
  refine ⟨setBlock w c.cb (.map (ms.modify i fun e => { e with val := vv }) ms.size), ?_, ?_⟩
  · simp only [Instr.entryStore, Sem.run_bind, getObj, Sem.run, q3, Result.andThen_ok, asInt, Sem.run_pure]
    have hfi' : ms.findIdx? (fun e => (e.born : Int) == Int.ofNat i) = some i := hfi
    have ha : (asIntOf (.int kd (Int.ofNat i))).run P w = .ok (kd, Int.ofNat i) w := rfl
    simp only [ha, Result.andThen_ok, hfi', setObj, Sem.run, q3]
    rfl
  · refine obj_step H hg rfl (by simp) hcc ho rfl ?_
    have := ObjR.map (φ := φ) (w := w) (putE e0.1 v i es) (ms.modify i fun e => { e with val := vv }) (by
      rw [putE_modify, Array.toList_modify]
      refine k1.modify i _ _ fun a b h1 h2 => ⟨?_, hv⟩
      have h2' : ms[i]? = some b := by simpa using h2
      rw [hx0'] at h2'
      cases h2'
      exact hx1.key) (by
      intro n x hx
      rw [Array.getElem?_modify] at hx
      split at hx
      · rename_i q
        simp only [Option.map_eq_some_iff] at hx
        obtain ⟨y, hy, rfl⟩ := hx
        exact k2 n y hy
      · exact k2 n x hx)
    rwa [Array.size_modify] at this
theorem op_okX (H : HR base φ h w) {a : Act} {ρ : Rho} (hρ : ∀ x v, ρ x = some v → VR φ w v (a.eval x)) {o : Oper} {r : ANext} (e : aopX P ρ h o = some r) :
    NextR P base φ h w r ((execOp a.eval o).run P w) := by
  unfold aopX at e
  unfold execOp
  cases ho : o.op <;> simp only [ho] at e ⊢ <;> try (exact absurd e (by simp))
  case binOp op t x y u =>
    unfold oEqS at e
    simp only [Option.bind_eq_some_iff] at e
    obtain ⟨p, hp, q, hq, e⟩ := e
    exact pure_R H e fun v hv => eqS_ok (hρ _ _ hp) (hρ _ _ hq) hv
  case slice t x lo hi mx =>
    unfold oSlice3 at e
    split at e
    case h_2 => cases e
    rename_i m
    split at e
    case h_2 => cases e
    rename_i hi
    simp only [Option.bind_eq_some_iff] at e
    obtain ⟨p, hp, l, hl, q, hq, m', hm, e⟩ := e
    exact pure_R H e fun v hv => by
      obtain ⟨u, q1, q2⟩ := slice3A_ok (P := P) (hρ _ _ hp) (opt_R hρ lo hl) (hρ _ _ hq) (hρ _ _ hm) hv
      refine ⟨u, ?_, q2⟩
      rw [← q1]
      rfl
  case mapEntry t m k =>
    unfold oMapEntry at e
    split at e
    case h_2 => cases e
    rename_i kt el hu
    simp only [Option.bind_eq_some_iff] at e
    obtain ⟨mv, hm, kv, hk, e⟩ := e
    exact pair_R e fun v hv => by
      obtain ⟨w', u, q1, q2, q3⟩ := mapEntry_ok (P := P) H hu (hρ _ _ hm) (hρ _ _ hk) hv
      exact ⟨φ, w', u, q1, q2, q3⟩
  case entryStore t m s v =>
    unfold oEntryStore at e
    simp only [Option.bind_eq_some_iff, Option.map_eq_some_iff] at e
    obtain ⟨mv, hm, sv, hs, vv, hv, h', hst, rfl⟩ := e
    obtain ⟨w', h1, h2⟩ := entryStore_ok (P := P) (t := t) H (hρ _ _ hm) (hρ _ _ hs) (hρ _ _ hv) hst
    exact ⟨φ, w', by simp only [Sem.run_bind, h1, Result.andThen_ok, Sem.run_pure], h2⟩
theorem free_okX {ρ : Rho} {o : Oper} {r : ANext} (hk : kindA P o = 0) (e : aopX P ρ h o = some r) : ∃ v, r = .val v h ∧ ∀ h', aopX P ρ h' o = some (.val v h') := by
  unfold kindA at hk
  unfold aopX at *
  cases ho : o.op <;> simp only [ho] at hk e ⊢ <;> try (exact absurd e (by simp))
  case binOp op t x y u =>
    unfold oEqS at *
    cases hx : ρ x with
    | none => rw [hx] at e; cases e
    | some a =>
      rw [hx] at e; simp only [Option.bind_some] at *
      exact pureO_bind e
  case slice t x lo hi mx =>
    unfold oSlice3 at *
    cases mx with
    | none => cases e
    | some m =>
    cases hi with
    | none => cases e
    | some hi =>
    simp only at *
    cases hx : ρ x with
    | none => rw [hx] at e; cases e
    | some a =>
    rw [hx] at e; simp only [Option.bind_some] at *
    cases hl : optO ρ lo with
    | none => rw [hl] at e; cases e
    | some l =>
    rw [hl] at e; simp only [Option.bind_some] at *
    cases hh : ρ hi with
    | none => rw [hh] at e; cases e
    | some hi' =>
    rw [hh] at e; simp only [Option.bind_some] at *
    exact pureO_bind e
  all_goals exact absurd hk (by decide)
theorem read_okX {ρ : Rho} {o : Oper} {r : ANext} (hk : kindA P o = 1) (e : aopX P ρ h o = some r) : ∃ v, r = .val v h := by
  unfold kindA at hk
  unfold aopX at e
  cases ho : o.op <;> simp only [ho] at hk e <;> first | (exact absurd hk (by decide)) | (exact absurd e (by simp))
end Go.Vai
