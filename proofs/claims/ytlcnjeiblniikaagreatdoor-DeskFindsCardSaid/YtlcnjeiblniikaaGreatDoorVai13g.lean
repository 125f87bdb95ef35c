/- The abstract machine: regions that draw their order: one answer. -/
import Derived.Test.YtlcnjeiblniikaaGreatDoorVai13f
namespace Go.Vai
set_option linter.unusedVariables false
set_option linter.unusedSimpArgs false
set_option linter.unusedSectionVars false
variable [Lane]
variable {P : Program} {base : Nat} {φ φ' φ'' : Emb} {h h' h'' : Heap} {w w' w'' : World}
section
variable {glob : Nat → Option AV} {call : Nat → List AV → Heap → Option (AV × Heap)} {N : Nat} {Q : Exit → Act → World → Prop} {ops : Array Oper} {sf : Nat → St} {φ0 : Emb} {w0 : World} {ds : List Deferred} {listed : Array Bool} {a : Act}

/-- what holds where some operations of a region are done -/
structure Inv (P : Program) (base : Nat) (N : Nat) (ops : Array Oper) (sf : Nat → St) (φ0 : Emb) (w0 : World) (ds : List Deferred) (listed : Array Bool) (φ : Emb) (w : World) (a : Act) : Prop where
  size : listed.size = ops.size
  down : ∀ i o, listed.getD i false = true → ops[i]? = some o → ∀ e ∈ edgesA o, listed.getD e false = true
  mem : ∃ s, s ≤ ops.size ∧ (s = 0 ∨ isChain P ops.toList (s - 1) = true) ∧ (∀ c, isChain P ops.toList c = true → (listed.getD c false = true ↔ c < s)) ∧ Step base φ0 (sf 0).h w0 φ (sf s).h w
  tsize : a.tmps.size = N
  wrote : ∀ i o t, listed.getD i false = true → ops[i]? = some o → o.dst = some t → VRd φ w (((sf (i + 1)).fr.get t).getD .u) (a.tmps.getD t undef)
  kept : ∀ t, t < N → (∀ i o, listed.getD i false = true → ops[i]? = some o → o.dst ≠ some t) → VRd φ w (((sf 0).fr.get t).getD .u) (a.tmps.getD t undef)
  defers : a.defers = ds
theorem lt_of_some {i : Nat} {o : Oper} (hi : ops[i]? = some o) : i < ops.size := (Array.getElem?_eq_some_iff.1 hi).1
theorem listed_lt (hs : listed.size = ops.size) {i : Nat} (q : listed.getD i false = true) : i < ops.size := by
  rcases Nat.lt_or_ge i listed.size with k | k
  · omega
  · simp [Array.getD_eq_getD_getElem?, Array.getElem?_eq_none k] at q
theorem listed_not (hs : listed.size = ops.size) {i : Nat} (hi : i < ops.size) (hn : listed.getD i true = false) : ¬ listed.getD i false = true := by
  have : i < listed.size := by omega
  simp [Array.getD_eq_getD_getElem?, Array.getElem?_eq_getElem this] at hn ⊢
  exact hn
theorem Inv.pre (R : Run P glob call N ops sf) (I : Inv P base N ops sf φ0 w0 ds listed φ w a) {i : Nat} {o : Oper} (hi : ops[i]? = some o) (hr : ∀ e ∈ edgesA o, listed.getD e false = true) :
    ∀ j ∈ pre ops i, listed.getD j false = true :=
  pre_closed (S := fun i => listed.getD i false = true) R.ord.back I.down (fun i q => listed_lt I.size q) i o hi hr
theorem Inv.val (R : Run P glob call N ops sf) (I : Inv P base N ops sf φ0 w0 ds listed φ w a) {i : Nat} {o : Oper} (hi : ops[i]? = some o) (hn : listed.getD i true = false)
    (hr : ∀ e ∈ edgesA o, listed.getD e false = true) {t : Nat} (ht : t ∈ o.looksAt ops) (htN : t < N) : VRd φ w (((sf i).fr.get t).getD .u) (a.tmps.getD t undef) := by
  have hpre := I.pre R hi hr
  have hlt := lt_of_some hi
  have hnot := listed_not I.size hlt hn
  by_cases hw : ∃ j x, j < i ∧ ops[j]? = some x ∧ x.dst = some t
  · obtain ⟨j, x, hj, hx, hxt⟩ := hw
    rcases R.ord.pair j i x o hj hx hi with ⟨h1, h2⟩ | ⟨h1, _⟩
    · have v := I.wrote j x t (hpre j h1) hx hxt
      have e : (sf i).fr.get t = (sf (j + 1)).fr.get t := by
        have := R.same (t := t) (i - (j + 1)) (j + 1) (by omega) (fun m y m1 m2 hy hyt => by
          rcases R.ord.pair j m x y (by omega) hx hy with ⟨_, q⟩ | ⟨q, _⟩
          · rcases q with q | q
            · rw [hxt] at q; cases q
            · exact q (by rw [hxt, hyt])
          · exact (Oper.apart_spec q).2.1 t hxt hyt)
        rwa [show j + 1 + (i - (j + 1)) = i by omega] at this
      rw [e]; exact v
    · exact absurd ht ((Oper.apart_spec h1).1 t hxt)
  · have e0 : (sf i).fr.get t = (sf 0).fr.get t := by
      have := R.same (t := t) i 0 (by omega) (fun m y _ m2 hy hyt => hw ⟨m, y, by omega, hy, hyt⟩)
      simpa using this
    rw [e0]
    refine I.kept t htN fun k x hk hx hxt => ?_
    rcases Nat.lt_trichotomy k i with q | q | q
    · exact hw ⟨k, x, q, hx, hxt⟩
    · subst q; exact hnot hk
    · rcases R.ord.pair i k o x q hi hx with ⟨h1, _⟩ | ⟨h1, _⟩
      · exact hnot (I.pre R hx (I.down k x hk hx) i h1)
      · exact (Oper.apart_spec h1).2.2 t hxt ht
theorem Inv.vals (R : Run P glob call N ops sf) (h0 : ∀ t, N ≤ t → (sf 0).fr.get t = none) (I : Inv P base N ops sf φ0 w0 ds listed φ w a) {i : Nat} {o : Oper} (hi : ops[i]? = some o) (hn : listed.getD i true = false)
    (hr : ∀ e ∈ edgesA o, listed.getD e false = true) {t : Nat} (ht : t ∈ o.looksAt ops) : VRd φ w (((sf i).fr.get t).getD .u) (a.tmps.getD t undef) := by
  rcases Nat.lt_or_ge t N with q | q
  · exact I.val R hi hn hr ht q
  · rw [R.out h0 i (Nat.le_of_lt (lt_of_some hi)) t q, Array.getD_eq_getD_getElem?, Array.getElem?_eq_none (by rw [I.tsize]; exact q)]
    exact .inr .u
theorem want_loc {fr : Fr} {o : Oper} (hv : ∀ d ∈ o.looksAt ops, VRd φ w ((fr.get d).getD .u) (a.tmps.getD d undef)) (hl : guardLive ops fr o = true) : wantA ops fr o = Region.wanted o (yielded ops a.tmps) := by
  unfold wantA Region.wanted
  cases hg : o.guard with
  | none => rfl
  | some g =>
    obtain ⟨j, want⟩ := g
    have e : yieldA ops fr j = yielded ops a.tmps j := by
      unfold yieldA yielded
      cases hd : (ops[j]?).bind (·.dst) with
      | none => rfl
      | some d =>
        have g0 := hv d (by simp [Oper.looksAt, hg, hd])
        have g : VR φ w ((fr.get d).getD .u) (a.tmps.getD d undef) := by
          rcases g0 with g0 | g0
          · cases hx : fr.get d with
            | none => rw [hx] at g0; cases g0
            | some x =>
              rw [hx] at g0
              have g0 : x = .any := g0
              subst g0
              unfold guardLive at hl
              rw [hg] at hl
              simp only [hd, Option.bind_some, hx] at hl
              cases hl
          · exact g0
        clear g0
        have hl2 : ∀ l, fr.get d ≠ some (.vec l) := by
          intro l hx
          unfold guardLive at hl
          rw [hg] at hl
          simp only [hd, Option.bind_some, hx] at hl
          cases hl
        simp only [Option.bind_some]
        rw [Array.getD_eq_getD_getElem?] at g
        cases hx : fr.get d with
        | none =>
          rw [hx] at g; simp only [Option.getD_none] at g
          cases ht : a.tmps[d]? with
          | none => rfl
          | some u => rw [ht] at g; simp only [Option.getD_some] at g; cases g; rfl
        | some x =>
          rw [hx] at g; simp only [Option.getD_some] at g
          cases ht : a.tmps[d]? with
          | none => rw [ht] at g; simp only [Option.getD_none] at g; cases x <;> first | rfl | (exact absurd hx (hl2 _)) | (cases g)
          | some u => rw [ht] at g; simp only [Option.getD_some] at g; cases g <;> first | rfl | (exact absurd hx (hl2 _))
    simp only [e]
    cases yielded ops a.tmps j <;> rfl
theorem eval_loc (G : GlobOk glob φ w) {fr : Fr} {reads : List Nat} (hv : ∀ d ∈ reads, VRd φ w ((fr.get d).getD .u) (a.tmps.getD d undef)) (x : Operand) (v : AV) (e : evalR glob fr reads x = some v) : VR φ w v (a.eval x) := by
  cases x with
  | tmp t =>
    simp only [evalR] at e
    split at e
    · rename_i q
      exact VRd.tmp (hv t (by simpa using q)) e
    · cases e
  | const v' => exact ofV_VR e
  | global g => exact G g v e
  | func f =>
    simp only [evalR, evalO, Option.some.injEq] at e
    subst e
    exact .func f [] [] .nil
theorem set_getD {i j : Nat} (hs : i < listed.size) : ((listed.setIfInBounds i true).getD j false = true) ↔ (j = i ∨ listed.getD j false = true) := by
  by_cases q : j = i
  · subst q
    simp [Array.getD_eq_getD_getElem?, Array.getElem?_setIfInBounds_self, hs]
  · rw [getD_set_ne false (Ne.symm q)]
    simp [q]
theorem Inv.put (R : Run P glob call N ops sf) (I : Inv P base N ops sf φ0 w0 ds listed φ w a) {i : Nat} {o : Oper} (hi : ops[i]? = some o) (hn : listed.getD i true = false)
    (hr : ∀ e ∈ edgesA o, listed.getD e false = true)
    (hm : ∃ s, s ≤ ops.size ∧ (s = 0 ∨ isChain P ops.toList (s - 1) = true) ∧ (∀ c, isChain P ops.toList c = true → ((listed.setIfInBounds i true).getD c false = true ↔ c < s)) ∧ Step base φ0 (sf 0).h w0 φ' (sf s).h w')
    (mono : ∀ x v, VRd φ w x v → VRd φ' w' x v) {v : AV} {u : Value} (hv : putA N (sf i).fr o.dst v = some (sf (i + 1)).fr) (hu : VR φ' w' v u) :
    Inv P base N ops sf φ0 w0 ds (listed.setIfInBounds i true) φ' w' (a.put o.dst u) := by
  have hlt := lt_of_some hi
  have hls : i < listed.size := by rw [I.size]; exact hlt
  have hnot := listed_not I.size hlt hn
  have hdist : ∀ j x, listed.getD j false = true → ops[j]? = some x → ∀ t, x.dst = some t → o.dst ≠ some t := by
    intro j x hj hx t hxt hot
    rcases Nat.lt_trichotomy j i with q | q | q
    · rcases R.ord.pair j i x o q hx hi with ⟨_, k⟩ | ⟨k, _⟩
      · rcases k with k | k
        · rw [hxt] at k; cases k
        · exact k (by rw [hxt, hot])
      · exact (Oper.apart_spec k).2.1 t hxt hot
    · subst q; exact hnot hj
    · rcases R.ord.pair i j o x q hi hx with ⟨_, k⟩ | ⟨k, _⟩
      · rcases k with k | k
        · rw [hot] at k; cases k
        · exact k (by rw [hxt, hot])
      · exact (Oper.apart_spec k).2.1 t hot hxt
  have tm : ∀ t, o.dst ≠ some t → (a.put o.dst u).tmps.getD t undef = a.tmps.getD t undef := by
    intro t ht
    cases hd : o.dst with
    | none => rfl
    | some d =>
      have : d ≠ t := fun q => ht (by rw [hd, q])
      show (a.tmps.setIfInBounds d u).getD t undef = _
      simp [Array.getD_eq_getD_getElem?, Array.getElem?_setIfInBounds_ne this]
  refine ⟨by simp [I.size], ?_, hm, ?_, ?_, ?_, ?_⟩
  · intro j x hj hx e he
    rw [set_getD hls] at hj ⊢
    rcases hj with rfl | hj
    · rw [hi] at hx; cases hx; exact .inr (hr e he)
    · exact .inr (I.down j x hj hx e he)
  · cases hd : o.dst with
    | none => exact I.tsize
    | some d => show (a.tmps.setIfInBounds d u).size = N; simp [I.tsize]
  · intro j x t hj hx hxt
    rw [set_getD hls] at hj
    by_cases q : j = i
    · subst q
      rw [hi] at hx; cases hx
      rw [hxt] at hv ⊢
      obtain ⟨k1, k2⟩ := put_at hv
      rw [k1]
      show VRd φ' w' v ((a.tmps.setIfInBounds t u).getD t undef)
      rw [Array.getD_eq_getD_getElem?, Array.getElem?_setIfInBounds_self, if_pos (by rw [I.tsize]; exact k2)]
      exact .inr hu
    · have hj := hj.resolve_left q
      rw [tm t (hdist j x hj hx t hxt)]
      exact mono _ _ (I.wrote j x t hj hx hxt)
  · intro t ht hno
    have : o.dst ≠ some t := hno i o ((set_getD hls).2 (.inl rfl)) hi
    rw [tm t this]
    exact mono _ _ (I.kept t ht fun j x hj hx => hno j x ((set_getD hls).2 (.inr hj)) hx)
  · rw [put_defers]; exact I.defers
theorem Run.heap_eq (R : Run P glob call N ops sf) {s i : Nat} (hs : s ≤ ops.size) (hi : i ≤ ops.size) (hc : ∀ c, isChain P ops.toList c = true → (c < s ↔ c < i)) : (sf s).h = (sf i).h := by
  rcases Nat.le_total s i with q | q
  · have := R.heap (i - s) s (by omega) (fun m m1 m2 => by
      cases k : isChain P ops.toList m with
      | false => rfl
      | true => have := (hc m k).2 (by omega); omega)
    rw [show s + (i - s) = i by omega] at this
    exact this.symm
  · have := R.heap (s - i) i (by omega) (fun m m1 m2 => by
      cases k : isChain P ops.toList m with
      | false => rfl
      | true => have := (hc m k).1 (by omega); omega)
    rw [show i + (s - i) = s by omega] at this
    exact this
theorem chain_of {i : Nat} {o : Oper} (hi : ops[i]? = some o) : isChain P ops.toList i = (kindA P o == 2) := by
  unfold isChain
  rw [Array.getElem?_toList, hi]
theorem chain_some {c : Nat} (hc : isChain P ops.toList c = true) : ∃ o, ops[c]? = some o ∧ kindA P o = 2 := by
  unfold isChain at hc
  rw [Array.getElem?_toList] at hc
  cases h : ops[c]? with
  | none => rw [h] at hc; cases hc
  | some o => rw [h] at hc; exact ⟨o, rfl, by simpa using hc⟩
theorem Inv.chain (R : Run P glob call N ops sf) (I : Inv P base N ops sf φ0 w0 ds listed φ w a) {i : Nat} {o : Oper} (hi : ops[i]? = some o) (hn : listed.getD i true = false)
    (hr : ∀ e ∈ edgesA o, listed.getD e false = true) (hk : kindA P o = 2) : ∀ c, isChain P ops.toList c = true → (listed.getD c false = true ↔ c < i) := by
  intro c hc
  obtain ⟨x, hx, hxk⟩ := chain_some hc
  have hnot := listed_not I.size (lt_of_some hi) hn
  constructor
  · intro hl
    rcases Nat.lt_trichotomy c i with q | q | q
    · exact q
    · subst q; exact absurd hl hnot
    · rcases R.ord.pair i c o x q hi hx with ⟨k, _⟩ | ⟨_, k⟩
      · exact absurd (I.pre R hx (I.down c x hl hx) i k) hnot
      · rcases k with k | k
        · exact absurd hk k
        · exact absurd hxk k
  · intro q
    rcases R.ord.pair c i x o q hx hi with ⟨k, _⟩ | ⟨_, k⟩
    · exact I.pre R hi hr c k
    · rcases k with k | k
      · exact absurd hxk k
      · exact absurd hk k
/-- an operation that may be done, done -/
theorem any_step (hc : CallOk P base glob call) (R : Run P glob call N ops sf) (h0 : ∀ t, N ≤ t → (sf 0).fr.get t = none) (H0 : HR base φ0 (sf 0).h w0) (G0 : GlobOk glob φ0 w0)
    (I : Inv P base N ops sf φ0 w0 ds listed φ w a) {i : Nat} (hready : i ∈ Region.ready .any ops listed) {K : Act → World → Prop}
    (hK : ∀ φ' w' a', Inv P base N ops sf φ0 w0 ds (listed.setIfInBounds i true) φ' w' a' → K a' w') : wpOp P ops Q i K a w := by
  obtain ⟨hn, o, hi, hr0⟩ := mem_ready.1 hready
  have hr : ∀ e ∈ edgesA o, listed.getD e false = true := by
    intro e he
    unfold edgesA at he
    obtain ⟨x, hx, rfl⟩ := List.mem_map.1 he
    obtain ⟨hx1, hx2⟩ := List.mem_filter.1 hx
    exact hr0 x (by simpa using hx1) hx2
  have hlt := lt_of_some hi
  have hls : i < listed.size := by rw [I.size]; exact hlt
  have hvals : ∀ d ∈ o.looksAt ops, VRd φ w (((sf i).fr.get d).getD .u) (a.tmps.getD d undef) := fun d hd => I.vals R h0 hi hn hr hd
  have hst := R.step i o hi
  have hgl : guardLive ops (sf i).fr o = true := by
    cases q : guardLive ops (sf i).fr o with
    | true => rfl
    | false => unfold stepD at hst; rw [q] at hst; cases hst
  have hwant := want_loc hvals hgl
  obtain ⟨s, hs1, hs2, hs3, hs4⟩ := I.mem
  have G : GlobOk glob φ w := G0.step hs4
  have hρ := eval_loc (a := a) G hvals
  -- the memory behind an operation that is no link of the chain
  have stay : ∀ {φ' w'}, kindA P o ≠ 2 → Step base φ (sf s).h w φ' (sf s).h w' →
      ∃ s, s ≤ ops.size ∧ (s = 0 ∨ isChain P ops.toList (s - 1) = true) ∧ (∀ c, isChain P ops.toList c = true → ((listed.setIfInBounds i true).getD c false = true ↔ c < s)) ∧ Step base φ0 (sf 0).h w0 φ' (sf s).h w' := by
    intro φ' w' hk st
    refine ⟨s, hs1, hs2, fun c hcc => ?_, hs4.trans H0 st⟩
    rw [set_getD hls, ← hs3 c hcc]
    constructor
    · rintro (rfl | q)
      · obtain ⟨x, hx, hxk⟩ := chain_some hcc
        rw [hi] at hx; cases hx
        exact absurd hxk hk
      · exact q
    · exact .inr
  have go : ∀ {φ' w'} {h1 : Heap}, kindA P o = 2 → (sf (i + 1)).h = h1 → Step base φ (sf i).h w φ' h1 w' →
      ∃ s, s ≤ ops.size ∧ (s = 0 ∨ isChain P ops.toList (s - 1) = true) ∧ (∀ c, isChain P ops.toList c = true → ((listed.setIfInBounds i true).getD c false = true ↔ c < s)) ∧ Step base φ0 (sf 0).h w0 φ' (sf s).h w' := by
    intro φ' w' h1 hk e1 st
    have hcs := I.chain R hi hn hr hk
    have he : (sf s).h = (sf i).h := R.heap_eq hs1 (Nat.le_of_lt hlt) fun c hcc => by rw [← hs3 c hcc, hcs c hcc]
    refine ⟨i + 1, hlt, .inr (by rw [Nat.add_sub_cancel, chain_of hi, hk]; rfl), fun c hcc => ?_, ?_⟩
    · rw [set_getD hls, hcs c hcc]; omega
    · rw [e1]; rw [he] at hs4; exact hs4.trans H0 st
  have hskip : kindA P o = 2 → (sf s).h = (sf i).h := fun hk => R.heap_eq hs1 (Nat.le_of_lt hlt) fun c hcc => by rw [← hs3 c hcc, I.chain R hi hn hr hk c hcc]
  unfold wpOp
  simp only [hi]
  unfold stepD at hst
  rw [hgl, cond_true] at hst
  cases hw : wantA ops (sf i).fr o with
  | false =>
    rw [hw, cond_false, Option.map_eq_some_iff] at hst
    obtain ⟨f, hf, e⟩ := hst
    have e1 : (sf (i + 1)).fr = f := by rw [← e]; rfl
    have e2 : (sf (i + 1)).h = (sf i).h := by rw [← e]; rfl
    rw [← hwant, hw, if_neg (by decide)]
    refine hK φ w _ (I.put R hi hn hr ?_ (fun _ _ k => k) (v := .u) (by rw [e1]; exact hf) .u)
    by_cases hk : kindA P o = 2
    · exact go hk e2 (by have := hskip hk; rw [← this]; exact Step.refl hs4.hr)
    · exact stay hk (Step.refl hs4.hr)
  | true =>
    rw [hw, cond_true, Option.bind_eq_some_iff] at hst
    obtain ⟨r, hr', hst⟩ := hst
    rw [← hwant, hw, if_pos rfl]
    refine .inl ?_
    by_cases hk : kindA P o = 2
    · have he := hskip hk
      have n := op_ok hs4.hr hρ (by rw [he]; exact hr')
      rw [he] at n
      unfold Oper.wp
      unfold afterA at hst
      cases r with
      | val v h1 =>
        obtain ⟨φ', w', u, q1, q2, q3⟩ := n
        rw [q1, Oper.upon_value]
        simp only [Option.map_eq_some_iff] at hst
        obtain ⟨f, hf, e⟩ := hst
        have e1 : (sf (i + 1)).fr = f := by rw [← e]; rfl
        have e2 : (sf (i + 1)).h = h1 := by rw [← e]; rfl
        exact hK φ' w' _ (I.put R hi hn hr (go hk e2 q2) (fun _ _ k => k.step q2) (by rw [e1]; exact hf) q3)
      | skip h1 =>
        obtain ⟨φ', w', q1, q2⟩ := n
        rw [q1, Oper.upon_skip]
        simp only [Option.map_eq_some_iff] at hst
        obtain ⟨f, hf, e⟩ := hst
        have e1 : (sf (i + 1)).fr = f := by rw [← e]; rfl
        have e2 : (sf (i + 1)).h = h1 := by rw [← e]; rfl
        exact hK φ' w' _ (I.put R hi hn hr (go hk e2 q2) (fun _ _ k => k.step q2) (by rw [e1]; exact hf) .u)
      | enter g xs =>
        obtain ⟨us, q1, q2⟩ := n
        simp only [Option.bind_eq_some_iff] at hst
        obtain ⟨r, hr2, hst⟩ := hst
        have HS : HR base φ (sf i).h w := by rw [← he]; exact hs4.hr
        rcases hc g xs (sf i).h r hr2 φ w us HS G q2 with ⟨c1, c2⟩ | ⟨v, φ', w', c1, st, hv⟩
        case inr =>
          rw [q1, c1, Oper.upon_value]
          simp only [Option.map_eq_some_iff] at hst
          obtain ⟨f, hf, e⟩ := hst
          have e1 : (sf (i + 1)).fr = f := by rw [← e]; rfl
          have e2 : (sf (i + 1)).h = r.2 := by rw [← e]; rfl
          exact hK φ' w' _ (I.put R hi hn hr (go hk e2 st) (fun _ _ k => k.step st) (by rw [e1]; exact hf) hv)
        rw [q1, c1, Oper.upon_enter]
        refine c2.mono ?_
        rintro _ w' ⟨v, φ', rfl, st, hv⟩
        simp only [Option.map_eq_some_iff] at hst
        obtain ⟨f, hf, e⟩ := hst
        have e1 : (sf (i + 1)).fr = f := by rw [← e]; rfl
        have e2 : (sf (i + 1)).h = r.2 := by rw [← e]; rfl
        exact hK φ' w' _ (I.put R hi hn hr (go hk e2 st) (fun _ _ k => k.step st) (by rw [e1]; exact hf) hv)
    · -- its value is the same, whenever it is done
      have hval : ∃ v, r = .val v (sf i).h ∧ aop P (evalR glob (sf i).fr (o.looksAt ops)) (sf s).h o = some (.val v (sf s).h) := by
        rcases kind_le (P := P) o with q | q | q
        · obtain ⟨v, k1, k2⟩ := free_ok q hr'
          exact ⟨v, k1, k2 _⟩
        · obtain ⟨v, rfl⟩ := read_ok q hr'
          refine ⟨v, rfl, ?_⟩
          cases hb : between P ops.toList i s with
          | false =>
            have he : (sf s).h = (sf i).h := R.heap_eq hs1 (Nat.le_of_lt hlt) fun c hcc => by
              unfold between at hb
              rw [List.any_eq_false] at hb
              obtain ⟨x, hx, _⟩ := chain_some hcc
              have := hb c (by rw [List.mem_range, Array.length_toList]; exact lt_of_some hx)
              simp only [hcc, Bool.true_and, bne_iff_ne, ne_eq, Decidable.not_not, decide_eq_decide] at this
              omega
            rw [he]; exact hr'
          | true =>
            have hwin : window P (preA ops.toList []) ops.toList i s = true := by
              unfold window
              rw [List.all_eq_true]
              intro c _
              cases hcc : isChain P ops.toList c with
              | false => rfl
              | true =>
                simp only [Bool.not_true, Bool.false_or, Bool.and_eq_true, Bool.or_eq_true, Bool.not_eq_true', decide_eq_true_eq]
                obtain ⟨x, hx, _⟩ := chain_some hcc
                constructor
                · cases hq : ((preA ops.toList []).getD i []).contains c with
                  | false => exact .inl rfl
                  | true => exact .inr ((hs3 c hcc).1 (I.pre R hi hr c (by simpa [Vai.pre] using hq)))
                · cases hq : ((preA ops.toList []).getD c []).contains i with
                  | false => exact .inl rfl
                  | true =>
                    refine .inr (Nat.le_of_not_lt fun k => ?_)
                    have hl := (hs3 c hcc).2 k
                    exact listed_not I.size hlt hn (I.pre R hx (I.down c x hl hx) i (by simpa [Vai.pre] using hq))
            rcases R.steady i s o hi q hs1 hs2 hwin hb with k | ⟨v', h1, h2, k1, k2⟩
            · rw [hw] at k; cases k
            · rw [hr'] at k1
              cases k1
              obtain ⟨v2, k3⟩ := read_ok q k2
              cases k3
              exact k2
        · exact absurd q hk
      obtain ⟨v, rfl, hv⟩ := hval
      obtain ⟨φ', w', u, q1, q2, q3⟩ := op_ok hs4.hr hρ hv
      unfold Oper.wp
      rw [q1, Oper.upon_value]
      unfold afterA at hst
      simp only [Option.map_eq_some_iff] at hst
      obtain ⟨f, hf, e⟩ := hst
      have e1 : (sf (i + 1)).fr = f := by rw [← e]; rfl
      exact hK φ' w' _ (I.put R hi hn hr (stay hk q2) (fun _ _ k => k.step q2) (by rw [e1]; exact hf) q3)
end
end Go.Vai
