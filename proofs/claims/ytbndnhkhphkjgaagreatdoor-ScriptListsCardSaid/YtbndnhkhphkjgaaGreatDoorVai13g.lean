/- The abstract machine: regions that draw their order: one answer. -/
import Derived.Test.YtbndnhkhphkjgaaGreatDoorVai13f
namespace Go.Vai
set_option linter.unusedVariables false
set_option linter.unusedSimpArgs false
set_option linter.unusedSectionVars false
variable [Lane]
variable {P : Program} {base : Nat} {φ φ' φ'' : Emb} {h h' h'' : Heap} {w w' w'' : World}
section
variable {glob : Nat → Option AV} {call : Nat → List AV → Heap → Option (AV × Heap)} {N : Nat} {Q : Exit → Act → World → Prop} {ops : Array Oper} {sf : Nat → St} {φ0 : Emb} {w0 : World} {ds : List Deferred} {listed : Array Bool} {a : Act} {s : Nat} {pd : Nat → Nat}

/-- the model makes a block that the memory does not know of -/
theorem alloc_stay (H : HR base φ h w) (o : Obj) : Step base φ h w φ h (w.alloc o) := by
  have hrows := alloc_rows w o
  refine ⟨⟨⟨H.fresh, by rw [alloc_size]; have := H.low; omega, fun b g c q => by rw [alloc_size]; have := H.range _ _ _ q; omega, H.inj, H.los, ?_, ?_⟩, Ext.refl _, hrows, alloc_kept φ h w o, fun b g c q _ => ⟨g, c, q, rfl⟩, Nat.le_refl _, fun _ _ q => q⟩,
    fun b m n cur g c e1 e2 => ⟨alloc_get w o _ (H.range _ _ _ e2), rfl⟩⟩
  · intro b ro gen cs g c q1 q2
    obtain ⟨p1, p2, p3, arr, t, fz, pa, pf, pk⟩ := H.cells _ _ _ _ _ _ q1 q2
    refine ⟨p1, p2, p3, arr, t, fz, (alloc_get w o _ (H.range _ _ _ q2)).trans pa, pf, ?_⟩
    intro i lo v hi hle hao hie
    obtain ⟨u, r1, r2, r3⟩ := pk i lo v hi hle hao hie
    exact ⟨u, r1, r2.mono (Ext.refl _) hrows, r3⟩
  · intro b y g c q1 hy q2
    obtain ⟨p1, p0, ob, p2, p3⟩ := H.other _ _ _ _ q1 hy q2
    exact ⟨p1, p0, ob, (alloc_get w o _ (H.range _ _ _ q2)).trans p2, p3.mono (Ext.refl _) hrows⟩
/-- a block that the memory did not know of becomes a row of its own -/
theorem adopt_step {φs : Emb} {hs : Heap} {ws : World} (H0 : HR base φs hs ws) (S : Step base φs hs ws φ h w) {vs : List AV} {cb : Nat} {arr : Array Value} {t : TypeId} {fz : Nat × Nat} (hnew : ws.heap.size ≤ cb) (hlt : cb < w.heap.size)
    (hfree : ∀ b g c, φ b g = some c → c.cb ≠ cb) (hat : w.heap[cb]? = some (.cells arr t fz)) (hfz : FzOk fz arr.size) (hv : All2 (VR φ w) vs arr.toList) {r : Nat × Heap} (hr : newRow h vs = some r) :
    r.1 = h.next ∧ Step base φs hs ws (addE φ h.next 0 ⟨cb, 0, 0, vs.length⟩) r.2 w := by
  have H := S.hr
  unfold newRow at hr
  simp only [Option.bind_eq_some_iff, Option.some.injEq] at hr
  obtain ⟨cs, h1, os, ho, rfl⟩ := hr
  obtain ⟨g1, g2⟩ := fillTr_get 0 vs .nil cs 0 h1
  have g3 : ∀ i lo v, cs.get i = some (lo, v) → lo = 0 ∧ vs[i]? = some v := by
    intro i lo v hi
    rw [g1] at hi
    split at hi
    · simp only [Option.map_eq_some_iff, Prod.mk.injEq, Nat.sub_zero] at hi
      obtain ⟨v', k1, rfl, rfl⟩ := hi
      exact ⟨rfl, k1⟩
    · rw [Tr.get_nil] at hi; cases hi
  have hn : ∀ g, φ h.next g = none := (H.fresh h.next (Nat.le_refl _)).2
  have hext : Ext φ (addE φ h.next 0 ⟨cb, 0, 0, vs.length⟩) := addE_ext (hn 0)
  have inv : ∀ b g c, addE φ h.next 0 ⟨cb, 0, 0, vs.length⟩ b g = some c → (b = h.next ∧ g = 0 ∧ c = ⟨cb, 0, 0, vs.length⟩) ∨ (b ≠ h.next ∧ φ b g = some c) := by
    intro b g c q
    unfold addE at q
    split at q
    · rename_i p; exact .inl ⟨p.1, p.2, (Option.some.inj q).symm⟩
    · exact .inr ⟨(by rintro rfl; rw [hn] at q; cases q), q⟩
  have hbase : base ≤ cb := Nat.le_trans H0.low hnew
  refine ⟨rfl, ⟨⟨?_, H.low, ?_, ?_, ?_, ?_, ?_⟩, S.ext.trans hext, S.rows, S.kept, ?_, Nat.le_trans S.next (Nat.le_succ _), ?_⟩, ?_⟩
  · intro b hb
    have hb' : h.next + 1 ≤ b := hb
    refine ⟨?_, fun g => ?_⟩
    · show os.get b = none
      rw [Tr.get_set_ne ho (by omega)]; exact (H.fresh b (by omega)).1
    · cases q : addE φ h.next 0 ⟨cb, 0, 0, vs.length⟩ b g with
      | none => rfl
      | some c =>
        rcases inv b g c q with ⟨rfl, _⟩ | ⟨_, q2⟩
        · omega
        · rw [(H.fresh b (by omega)).2 g] at q2; cases q2
  · intro b g c q
    rcases inv b g c q with ⟨_, _, rfl⟩ | ⟨_, q2⟩
    · exact hlt
    · exact H.range _ _ _ q2
  · intro b g c b' g' c' q q' ec
    rcases inv b g c q with ⟨rfl, rfl, rfl⟩ | ⟨_, q2⟩ <;> rcases inv b' g' c' q' with ⟨rfl, rfl, rfl⟩ | ⟨_, q2'⟩
    · exact ⟨rfl, rfl, rfl⟩
    · exact absurd ec.symm (hfree _ _ _ q2')
    · exact absurd ec (hfree _ _ _ q2)
    · exact H.inj _ _ _ _ _ _ q2 q2' ec
  · intro b ro gen cs' q1 i lo v hi
    have q1' : os.get b = some (.cells ro gen cs') := q1
    by_cases hne : b = h.next
    · subst hne
      rw [Tr.get_set_same ho] at q1'
      cases q1'
      rw [(g3 i lo v hi).1]; exact Nat.le_refl _
    · rw [Tr.get_set_ne ho hne] at q1'; exact H.los _ _ _ _ q1' _ _ _ hi
  · intro b ro gen cs' g c q1 q2
    have q1' : os.get b = some (.cells ro gen cs') := q1
    rcases inv b g c q2 with ⟨rfl, rfl, rfl⟩ | ⟨hne, q3⟩
    · rw [Tr.get_set_same ho] at q1'
      cases q1'
      refine ⟨Nat.le_refl _, fun _ => hbase, fun i lo v hi => by rw [(g3 i lo v hi).1]; exact Nat.le_refl _, arr, t, fz, hat, fun _ => hfz, ?_⟩
      intro i lo v hi _ _ hie
      obtain ⟨_, k1⟩ := g3 i lo v hi
      obtain ⟨u, p1, p2⟩ := hv.get i _ k1
      exact ⟨u, by simpa using p1, p2.mono hext (Rows.refl _), g2 _ (List.mem_of_getElem? k1)⟩
    · rw [Tr.get_set_ne ho hne] at q1'
      obtain ⟨p1, p2, p3, arr', t', fz', pa, pf, pk⟩ := H.cells _ _ _ _ _ _ q1' q3
      refine ⟨p1, p2, p3, arr', t', fz', pa, pf, ?_⟩
      intro i lo v hi hle hao hie
      obtain ⟨u, r1, r2, r3⟩ := pk i lo v hi hle hao hie
      exact ⟨u, r1, r2.mono hext (Rows.refl _), r3⟩
  · intro b y g c q1 hy q2
    have q1' : os.get b = some y := q1
    rcases inv b g c q2 with ⟨rfl, rfl, rfl⟩ | ⟨hne, q3⟩
    · rw [Tr.get_set_same ho] at q1'
      cases q1'; cases hy
    · rw [Tr.get_set_ne ho hne] at q1'
      obtain ⟨p1, p0, ob, p2, p3⟩ := H.other _ _ _ _ q1' hy q3
      exact ⟨p1, p0, ob, p2, p3.mono hext (Rows.refl _)⟩
  · intro b g c q hc
    rcases inv b g c q with ⟨rfl, rfl, rfl⟩ | ⟨hne, q3⟩
    · have : cb < ws.heap.size := hc
      omega
    · exact S.newer b g c q3 hc
  · intro b hb q
    have : wr (os.get b) = true := q
    have hbn : b ≠ h.next := by have := S.next; omega
    rw [Tr.get_set_ne ho hbn] at this
    exact S.known b hb this
  · intro b m n cur g c e1 e2
    obtain ⟨k1, k2⟩ := S.its b m n cur g c e1 e2
    refine ⟨k1, ?_⟩
    have hbn : b ≠ h.next := by have := H0.below e2; have := S.next; omega
    show os.get b = _
    rw [Tr.get_set_ne ho hbn]; exact k2
/-- a new variable that was made ahead of what stands before it -/
structure Pend (P : Program) (φ : Emb) (w0 w : World) (a : Act) (o : Oper) (cb : Nat) : Prop where
  dst : ∃ t, o.dst = some t ∧ a.tmps.getD t undef = .pointer (some ⟨cb, 0, none⟩)
  new : w0.heap.size ≤ cb
  lt : cb < w.heap.size
  free : ∀ b g c, φ b g = some c → c.cb ≠ cb
  cells : ∃ e z arr ty fz, o.op = .alloc e ∧ zeroT P e = some z ∧ w.heap[cb]? = some (.cells arr ty fz) ∧ FzOk fz arr.size ∧ ∀ φ w, All2 (VR φ w) (cellsA z) arr.toList
/-- what holds where some operations of a region are done -/
structure InvW (P : Program) (base : Nat) (N : Nat) (ops : Array Oper) (sf : Nat → St) (φ0 : Emb) (w0 : World) (ds : List Deferred) (s : Nat) (pd : Nat → Nat) (listed : Array Bool) (φ : Emb) (w : World) (a : Act) : Prop where
  size : listed.size = ops.size
  down : ∀ i o, listed.getD i false = true → ops[i]? = some o → ∀ e ∈ edgesA o, listed.getD e false = true
  sle : s ≤ ops.size
  sat : s = 0 ∨ isChain P ops.toList (s - 1) = true
  below : ∀ c, isChain P ops.toList c = true → c < s → listed.getD c false = true
  pend : ∀ c, isChain P ops.toList c = true → s ≤ c → listed.getD c false = true → ∃ o, ops[c]? = some o ∧ isAllocO o = true ∧ Pend P φ w0 w a o (pd c)
  dist : ∀ c c', isChain P ops.toList c = true → isChain P ops.toList c' = true → s ≤ c → s ≤ c' → listed.getD c false = true → listed.getD c' false = true → pd c = pd c' → c = c'
  mem : Step base φ0 (sf 0).h w0 φ (sf s).h w
  tsize : a.tmps.size = N
  wrote : ∀ i o t, listed.getD i false = true → ops[i]? = some o → (isChain P ops.toList i = true → i < s) → o.dst = some t → VRd φ w (((sf (i + 1)).fr.get t).getD .u) (a.tmps.getD t undef)
  kept : ∀ t, t < N → (∀ i o, listed.getD i false = true → ops[i]? = some o → o.dst ≠ some t) → VRd φ w (((sf 0).fr.get t).getD .u) (a.tmps.getD t undef)
  defers : a.defers = ds
/-- and nothing is left pending without need -/
structure Inv (P : Program) (base : Nat) (N : Nat) (ops : Array Oper) (sf : Nat → St) (φ0 : Emb) (w0 : World) (ds : List Deferred) (s : Nat) (pd : Nat → Nat) (listed : Array Bool) (φ : Emb) (w : World) (a : Act) : Prop extends InvW P base N ops sf φ0 w0 ds s pd listed φ w a where
  greedy : ∀ c, isChain P ops.toList c = true → s ≤ c → listed.getD c false = true → ∃ c', isChain P ops.toList c' = true ∧ s ≤ c' ∧ c' < c ∧ ¬ listed.getD c' false = true
theorem lt_of_some {i : Nat} {o : Oper} (hi : ops[i]? = some o) : i < ops.size := (Array.getElem?_eq_some_iff.1 hi).1
theorem listed_lt (hs : listed.size = ops.size) {i : Nat} (q : listed.getD i false = true) : i < ops.size := by
  rcases Nat.lt_or_ge i listed.size with k | k
  · omega
  · simp [Array.getD_eq_getD_getElem?, Array.getElem?_eq_none k] at q
theorem listed_not (hs : listed.size = ops.size) {i : Nat} (hi : i < ops.size) (hn : listed.getD i true = false) : ¬ listed.getD i false = true := by
  have : i < listed.size := by omega
  simp [Array.getD_eq_getD_getElem?, Array.getElem?_eq_getElem this] at hn ⊢
  exact hn
theorem InvW.pre (R : Run P glob call N ops sf) (I : InvW P base N ops sf φ0 w0 ds s pd listed φ w a) {i : Nat} {o : Oper} (hi : ops[i]? = some o) (hr : ∀ e ∈ edgesA o, listed.getD e false = true) :
    ∀ j ∈ pre ops i, listed.getD j false = true :=
  pre_closed (S := fun i => listed.getD i false = true) R.ord.back I.down (fun i q => listed_lt I.size q) i o hi hr
theorem pre_lt (hb : ∀ i o, ops[i]? = some o → ∀ x ∈ edgesA o, x < i) : ∀ (i : Nat) (o : Oper), ops[i]? = some o → ∀ j ∈ pre ops i, j < i := by
  intro i
  induction i using Nat.strongRecOn with
  | _ i ih =>
    intro o hi j hj
    rcases pre_at hi (hb i o hi) j hj with hj | ⟨e, h1, h2⟩
    · exact hb i o hi j hj
    · have hlt := hb i o hi e h1
      have hsz : e < ops.size := by have := (Array.getElem?_eq_some_iff.1 hi).1; omega
      have := ih e hlt ops[e] (by simp [hsz]) j h2
      omega
theorem chain_of {i : Nat} {o : Oper} (hi : ops[i]? = some o) : isChain P ops.toList i = (kindA P o == 2) := by
  unfold isChain
  rw [Array.getElem?_toList, hi]
theorem chain_some {c : Nat} (hc : isChain P ops.toList c = true) : ∃ o, ops[c]? = some o ∧ kindA P o = 2 := by
  unfold isChain at hc
  rw [Array.getElem?_toList] at hc
  cases h : ops[c]? with
  | none => rw [h] at hc; cases hc
  | some o => rw [h] at hc; exact ⟨o, rfl, by simpa using hc⟩
/-- ahead of a link of the chain that is no new variable all links are done -/
theorem InvW.chainW (R : Run P glob call N ops sf) (I : InvW P base N ops sf φ0 w0 ds s pd listed φ w a) {i : Nat} {o : Oper} (hi : ops[i]? = some o)
    (hr : ∀ e ∈ edgesA o, listed.getD e false = true) (hk : kindA P o = 2) (hna : isAllocO o = false) : ∀ c, isChain P ops.toList c = true → c < i → listed.getD c false = true := by
  intro c hc q
  obtain ⟨x, hx, hxk⟩ := chain_some hc
  rcases R.ord.pair c i x o q hx hi with ⟨k, _⟩ | ⟨_, k⟩
  · exact I.pre R hi hr c k
  · rcases k with k | k | k
    · exact absurd hxk k
    · exact absurd hk k
    · rw [hna] at k; cases k
theorem alloc_looks {o : Oper} (h : isAllocO o = true) : o.looksAt ops = [] := by
  unfold isAllocO at h
  split at h
  · rename_i e ho
    simp only [Bool.and_eq_true, Option.isNone_iff_eq_none] at h
    simp [Oper.looksAt, ho, Op.operands, h.1]
  · cases h
theorem Inv.calm (R : Run P glob call N ops sf) (I : Inv P base N ops sf φ0 w0 ds s pd listed φ w a) {i : Nat} {o : Oper} (hi : ops[i]? = some o)
    (hr : ∀ e ∈ edgesA o, listed.getD e false = true) (hl : kindA P o = 2 → isAllocO o = false) {j : Nat} (hj : j ∈ pre ops i) (hc : isChain P ops.toList j = true) : j < s := by
  rcases Nat.lt_or_ge j s with q | q
  · exact q
  · exfalso
    have hlj := I.toInvW.pre R hi hr j hj
    obtain ⟨x, hx, hxa, _⟩ := I.pend j hc q hlj
    obtain ⟨c', k1, k2, k3, k4⟩ := I.greedy j hc q hlj
    have hnp : c' ∉ pre ops j := fun z => k4 (I.toInvW.pre R hx (I.down j x hlj hx) c' z)
    by_cases hk : kindA P o = 2
    · have hji := pre_lt R.ord.back i o hi j hj
      exact k4 (I.toInvW.chainW R hi hr hk (hl hk) c' k1 (by omega))
    · exact R.ord.loose i o j x c' hi hk hx hxa k3 k1 hnp hj
theorem Inv.val (R : Run P glob call N ops sf) (I : Inv P base N ops sf φ0 w0 ds s pd listed φ w a) {i : Nat} {o : Oper} (hi : ops[i]? = some o) (hn : listed.getD i true = false)
    (hr : ∀ e ∈ edgesA o, listed.getD e false = true) {t : Nat} (ht : t ∈ o.looksAt ops) (htN : t < N) : VRd φ w (((sf i).fr.get t).getD .u) (a.tmps.getD t undef) := by
  have hpre := I.toInvW.pre R hi hr
  have hlt := lt_of_some hi
  have hnot := listed_not I.size hlt hn
  have hna : kindA P o = 2 → isAllocO o = false := by
    intro _
    cases q : isAllocO o with
    | false => rfl
    | true => rw [alloc_looks q] at ht; cases ht
  by_cases hw : ∃ j x, j < i ∧ ops[j]? = some x ∧ x.dst = some t
  · obtain ⟨j, x, hj, hx, hxt⟩ := hw
    rcases R.ord.pair j i x o hj hx hi with ⟨h1, h2⟩ | ⟨h1, _⟩
    · have v := I.wrote j x t (hpre j h1) hx (fun hc => I.calm R hi hr hna h1 hc) hxt
      have e : (sf i).fr.get t = (sf (j + 1)).fr.get t := by
        have := R.same (t := t) (i - (j + 1)) (j + 1) (by omega) (fun m y m1 m2 hy hyt => by
          rcases R.ord.pair j m x y (by omega) hx hy with ⟨_, q⟩ | ⟨q, _⟩
          · rcases q with q | q
            · rw [hxt] at q; cases q
            · exact q (by rw [hxt, hyt])
          · exact (Oper.apart_spec q).2.1 t hxt hyt)
        rwa [show j + 1 + (i - (j + 1)) = i by omega] at this
      rw [e]; exact v
    · exact absurd ht ((Oper.apart_spec h1).1 t hxt)
  · have e0 : (sf i).fr.get t = (sf 0).fr.get t := by
      have := R.same (t := t) i 0 (by omega) (fun m y _ m2 hy hyt => hw ⟨m, y, by omega, hy, hyt⟩)
      simpa using this
    rw [e0]
    refine I.kept t htN fun k x hk hx hxt => ?_
    rcases Nat.lt_trichotomy k i with q | q | q
    · exact hw ⟨k, x, q, hx, hxt⟩
    · subst q; exact hnot hk
    · rcases R.ord.pair i k o x q hi hx with ⟨h1, _⟩ | ⟨h1, _⟩
      · exact hnot (I.toInvW.pre R hx (I.down k x hk hx) i h1)
      · exact (Oper.apart_spec h1).2.2 t hxt ht
theorem Inv.vals (R : Run P glob call N ops sf) (h0 : ∀ t, N ≤ t → (sf 0).fr.get t = none) (I : Inv P base N ops sf φ0 w0 ds s pd listed φ w a) {i : Nat} {o : Oper} (hi : ops[i]? = some o) (hn : listed.getD i true = false)
    (hr : ∀ e ∈ edgesA o, listed.getD e false = true) {t : Nat} (ht : t ∈ o.looksAt ops) : VRd φ w (((sf i).fr.get t).getD .u) (a.tmps.getD t undef) := by
  rcases Nat.lt_or_ge t N with q | q
  · exact I.val R hi hn hr ht q
  · rw [R.out h0 i (Nat.le_of_lt (lt_of_some hi)) t q, Array.getD_eq_getD_getElem?, Array.getElem?_eq_none (by rw [I.tsize]; exact q)]
    exact .inr .u
theorem want_loc {fr : Fr} {o : Oper} (hv : ∀ d ∈ o.looksAt ops, VRd φ w ((fr.get d).getD .u) (a.tmps.getD d undef)) (hl : guardLive ops fr o = true) : wantA ops fr o = Region.wanted o (yielded ops a.tmps) := by
  unfold wantA Region.wanted
  cases hg : o.guard with
  | none => rfl
  | some g =>
    obtain ⟨j, want⟩ := g
    have e : yieldA ops fr j = yielded ops a.tmps j := by
      unfold yieldA yielded
      cases hd : (ops[j]?).bind (·.dst) with
      | none => rfl
      | some d =>
        have g0 := hv d (by simp [Oper.looksAt, hg, hd])
        have g : VR φ w ((fr.get d).getD .u) (a.tmps.getD d undef) := by
          rcases g0 with g0 | g0
          · cases hx : fr.get d with
            | none => rw [hx] at g0; cases g0
            | some x =>
              rw [hx] at g0
              have g0 : x = .any := g0
              subst g0
              unfold guardLive at hl
              rw [hg] at hl
              simp only [hd, Option.bind_some, hx] at hl
              cases hl
          · exact g0
        clear g0
        have hl2 : ∀ l, fr.get d ≠ some (.vec l) := by
          intro l hx
          unfold guardLive at hl
          rw [hg] at hl
          simp only [hd, Option.bind_some, hx] at hl
          cases hl
        simp only [Option.bind_some]
        rw [Array.getD_eq_getD_getElem?] at g
        cases hx : fr.get d with
        | none =>
          rw [hx] at g; simp only [Option.getD_none] at g
          cases ht : a.tmps[d]? with
          | none => rfl
          | some u => rw [ht] at g; simp only [Option.getD_some] at g; cases g; rfl
        | some x =>
          rw [hx] at g; simp only [Option.getD_some] at g
          cases ht : a.tmps[d]? with
          | none => rw [ht] at g; simp only [Option.getD_none] at g; cases x <;> first | rfl | (exact absurd hx (hl2 _)) | (cases g)
          | some u => rw [ht] at g; simp only [Option.getD_some] at g; cases g <;> first | rfl | (exact absurd hx (hl2 _))
    simp only [e]
    cases yielded ops a.tmps j <;> rfl
theorem eval_loc (G : GlobOk glob φ w) {fr : Fr} {reads : List Nat} (hv : ∀ d ∈ reads, VRd φ w ((fr.get d).getD .u) (a.tmps.getD d undef)) (x : Operand) (v : AV) (e : evalR glob fr reads x = some v) : VR φ w v (a.eval x) := by
  cases x with
  | tmp t =>
    simp only [evalR] at e
    split at e
    · rename_i q
      exact VRd.tmp (hv t (by simpa using q)) e
    · cases e
  | const v' => exact ofV_VR e
  | global g => exact G.at1 g v e
  | func f =>
    simp only [evalR, evalO, Option.some.injEq] at e
    subst e
    exact .func f [] [] .nil
theorem set_getD {i j : Nat} (hs : i < listed.size) : ((listed.setIfInBounds i true).getD j false = true) ↔ (j = i ∨ listed.getD j false = true) := by
  by_cases q : j = i
  · subst q
    simp [Array.getD_eq_getD_getElem?, Array.getElem?_setIfInBounds_self, hs]
  · rw [getD_set_ne false (Ne.symm q)]
    simp [q]
theorem Step.keep (st : Step base φ h w φ' h' w') : ∀ cb, cb < w.heap.size → (∀ b g c, φ b g = some c → c.cb ≠ cb) → (∀ b g c, φ' b g = some c → c.cb ≠ cb) ∧ w'.heap[cb]? = w.heap[cb]? := by
  intro cb hcb hf
  refine ⟨fun b g c e ec => ?_, st.kept.block cb hcb fun b g c e _ => hf b g c e⟩
  obtain ⟨g0, c0, q1, q2⟩ := st.newer b g c e (by rw [ec]; exact hcb)
  exact hf b g0 c0 q1 (q2.trans ec)
theorem InvW.put (R : Run P glob call N ops sf) (I : InvW P base N ops sf φ0 w0 ds s pd listed φ w a) {i : Nat} {o : Oper} (hi : ops[i]? = some o) (hn : listed.getD i true = false)
    (hr : ∀ e ∈ edgesA o, listed.getD e false = true) {s' : Nat} {pd' : Nat → Nat} (hpd : ∀ c, c ≠ i → pd' c = pd c) (hs1 : s' ≤ ops.size) (hs2 : s' = 0 ∨ isChain P ops.toList (s' - 1) = true) (hss : s ≤ s')
    (hbelow : ∀ c, isChain P ops.toList c = true → c < s' → c = i ∨ listed.getD c false = true) (hold : ∀ c, isChain P ops.toList c = true → listed.getD c false = true → c < s' → c < s)
    (hmem : Step base φ0 (sf 0).h w0 φ' (sf s').h w') (hkeep : ∀ cb, cb < w.heap.size → (∀ b g c, φ b g = some c → c.cb ≠ cb) → (∀ b g c, φ' b g = some c → c.cb ≠ cb) ∧ w'.heap[cb]? = w.heap[cb]?) (hsize : w.heap.size ≤ w'.heap.size)
    (mono : ∀ x v, VRd φ w x v → VRd φ' w' x v) {u : Value} (hvu : (isChain P ops.toList i = true → i < s') → ∃ v, putA N (sf i).fr o.dst v = some (sf (i + 1)).fr ∧ VR φ' w' v u)
    (hpi : isChain P ops.toList i = true → s' ≤ i → isAllocO o = true ∧ Pend P φ' w0 w' (a.put o.dst u) o (pd' i) ∧ ∀ c, isChain P ops.toList c = true → s' ≤ c → listed.getD c false = true → pd c ≠ pd' i) :
    InvW P base N ops sf φ0 w0 ds s' pd' (listed.setIfInBounds i true) φ' w' (a.put o.dst u) := by
  have hlt := lt_of_some hi
  have hls : i < listed.size := by rw [I.size]; exact hlt
  have hnot := listed_not I.size hlt hn
  have hdist : ∀ j x, listed.getD j false = true → ops[j]? = some x → ∀ t, x.dst = some t → o.dst ≠ some t := by
    intro j x hj hx t hxt hot
    rcases Nat.lt_trichotomy j i with q | q | q
    · rcases R.ord.pair j i x o q hx hi with ⟨_, k⟩ | ⟨k, _⟩
      · rcases k with k | k
        · rw [hxt] at k; cases k
        · exact k (by rw [hxt, hot])
      · exact (Oper.apart_spec k).2.1 t hxt hot
    · subst q; exact hnot hj
    · rcases R.ord.pair i j o x q hi hx with ⟨_, k⟩ | ⟨k, _⟩
      · rcases k with k | k
        · rw [hot] at k; cases k
        · exact k (by rw [hxt, hot])
      · exact (Oper.apart_spec k).2.1 t hot hxt
  have tm : ∀ t, o.dst ≠ some t → (a.put o.dst u).tmps.getD t undef = a.tmps.getD t undef := by
    intro t ht
    cases hd : o.dst with
    | none => rfl
    | some d =>
      have : d ≠ t := fun q => ht (by rw [hd, q])
      show (a.tmps.setIfInBounds d u).getD t undef = _
      simp [Array.getD_eq_getD_getElem?, Array.getElem?_setIfInBounds_ne this]
  refine ⟨by simp [I.size], ?_, hs1, hs2, ?_, ?_, ?_, hmem, ?_, ?_, ?_, ?_⟩
  · intro j x hj hx e he
    rw [set_getD hls] at hj ⊢
    rcases hj with rfl | hj
    · rw [hi] at hx; cases hx; exact .inr (hr e he)
    · exact .inr (I.down j x hj hx e he)
  · intro c hc hcs
    rw [set_getD hls]
    exact hbelow c hc hcs
  · intro c hc hcs hl
    rw [set_getD hls] at hl
    by_cases q : c = i
    · subst q
      obtain ⟨k1, k2, _⟩ := hpi hc hcs
      exact ⟨o, hi, k1, k2⟩
    · have hl := hl.resolve_left q
      obtain ⟨x, hx, hxa, pe⟩ := I.pend c hc (by omega) hl
      obtain ⟨t, k1, k2⟩ := pe.dst
      obtain ⟨f1, f2⟩ := hkeep _ pe.lt pe.free
      rw [hpd c q]
      refine ⟨x, hx, hxa, ⟨t, k1, ?_⟩, pe.new, Nat.lt_of_lt_of_le pe.lt hsize, f1, ?_⟩
      · rw [tm t (hdist c x hl hx t k1)]; exact k2
      · obtain ⟨e, z, arr, ty, fz, z1, z2, z3, z4, z5⟩ := pe.cells
        exact ⟨e, z, arr, ty, fz, z1, z2, f2.trans z3, z4, z5⟩
  · intro c c' hc hc' hcs hcs' hl hl' e
    rw [set_getD hls] at hl hl'
    by_cases q : c = i
    · by_cases q' : c' = i
      · rw [q, q']
      · exfalso
        subst q
        obtain ⟨_, _, k3⟩ := hpi hc hcs
        rw [hpd c' q'] at e
        exact k3 c' hc' hcs' (hl'.resolve_left q') e.symm
    · by_cases q' : c' = i
      · exfalso
        subst q'
        obtain ⟨_, _, k3⟩ := hpi hc' hcs'
        rw [hpd c q] at e
        exact k3 c hc hcs (hl.resolve_left q) e
      · rw [hpd c q, hpd c' q'] at e
        exact I.dist c c' hc hc' (by omega) (by omega) (hl.resolve_left q) (hl'.resolve_left q') e
  · cases hd : o.dst with
    | none => exact I.tsize
    | some d => show (a.tmps.setIfInBounds d u).size = N; simp [I.tsize]
  · intro j x t hj hx hjs hxt
    rw [set_getD hls] at hj
    by_cases q : j = i
    · subst q
      rw [hi] at hx; cases hx
      obtain ⟨v, hv, hu⟩ := hvu hjs
      rw [hxt] at hv ⊢
      obtain ⟨k1, k2⟩ := put_at hv
      rw [k1]
      show VRd φ' w' v ((a.tmps.setIfInBounds t u).getD t undef)
      rw [Array.getD_eq_getD_getElem?, Array.getElem?_setIfInBounds_self, if_pos (by rw [I.tsize]; exact k2)]
      exact .inr hu
    · have hj := hj.resolve_left q
      rw [tm t (hdist j x hj hx t hxt)]
      exact mono _ _ (I.wrote j x t hj hx (fun hc => hold j hc hj (hjs hc)) hxt)
  · intro t ht hno
    have : o.dst ≠ some t := hno i o ((set_getD hls).2 (.inl rfl)) hi
    rw [tm t this]
    exact mono _ _ (I.kept t ht fun j x hj hx => hno j x ((set_getD hls).2 (.inr hj)) hx)
  · rw [put_defers]; exact I.defers
theorem Run.heap_eq (R : Run P glob call N ops sf) {s i : Nat} (hs : s ≤ ops.size) (hi : i ≤ ops.size) (hc : ∀ c, isChain P ops.toList c = true → (c < s ↔ c < i)) : (sf s).h = (sf i).h := by
  rcases Nat.le_total s i with q | q
  · have := R.heap (i - s) s (by omega) (fun m m1 m2 => by
      cases k : isChain P ops.toList m with
      | false => rfl
      | true => have := (hc m k).2 (by omega); omega)
    rw [show s + (i - s) = i by omega] at this
    exact this.symm
  · have := R.heap (s - i) i (by omega) (fun m m1 m2 => by
      cases k : isChain P ops.toList m with
      | false => rfl
      | true => have := (hc m k).1 (by omega); omega)
    rw [show i + (s - i) = s by omega] at this
    exact this
/-- what a new variable's operation leaves in the order of the text -/
theorem alloc_step {s1 s2 : St} {o : Oper} (ha : isAllocO o = true) (e : stepD P glob call N ops s1 o = some s2) : ∃ el z t r, o.op = .alloc el ∧ o.dst = some t ∧ zeroT P el = some z ∧ newRow s1.h (cellsA z) = some r ∧ s2.h = r.2 ∧ putA N s1.fr (some t) (.ptr (some ⟨r.1, 0, 0, (cellsA z).length⟩)) = some s2.fr := by
  unfold isAllocO at ha
  split at ha
  case h_2 => cases ha
  rename_i el ho
  simp only [Bool.and_eq_true, Option.isNone_iff_eq_none] at ha
  obtain ⟨hg, hd⟩ := ha
  cases hd' : o.dst with
  | none => rw [hd'] at hd; cases hd
  | some t =>
  unfold stepD at e
  have hgl : guardLive ops s1.fr o = true := by unfold guardLive; rw [hg]
  have hw : wantA ops s1.fr o = true := by unfold wantA; rw [hg]
  rw [hgl, hw, cond_true, cond_true, Option.bind_eq_some_iff] at e
  obtain ⟨r, hr, e⟩ := e
  have hr0 : oAlloc P el (evalR glob s1.fr (o.looksAt ops)) s1.h = some r := by
    unfold aop aopY at hr
    have hX : aopX P (evalR glob s1.fr (o.looksAt ops)) s1.h o = none := by unfold aopX; rw [ho]
    have hY : lanesA P (evalR glob s1.fr (o.looksAt ops)) s1.h o = none := by unfold lanesA pureL; rw [ho]; rfl
    rw [hX, hY] at hr
    have : aop0 P (evalR glob s1.fr (o.looksAt ops)) s1.h o = oAlloc P el (evalR glob s1.fr (o.looksAt ops)) s1.h := by unfold aop0 opA; rw [ho]
    rw [this] at hr
    cases q : oAlloc P el (evalR glob s1.fr (o.looksAt ops)) s1.h with
    | none => rw [q] at hr; cases hr
    | some x => rw [q] at hr; exact hr
  unfold oAlloc newVal at hr0
  simp only [Option.bind_eq_some_iff, Option.map_eq_some_iff] at hr0
  obtain ⟨z, hz, r0, hr1, rfl⟩ := hr0
  unfold ptrOf afterA at e
  rw [hd'] at e
  simp only [Option.map_eq_some_iff] at e
  obtain ⟨f, hf, rfl⟩ := e
  exact ⟨el, z, t, r0, ho, rfl, hz, hr1, rfl, hf⟩
theorem InvW.adopt (R : Run P glob call N ops sf) (H0 : HR base φ0 (sf 0).h w0) (I : InvW P base N ops sf φ0 w0 ds s pd listed φ w a) {m : Nat} (hm : isChain P ops.toList m = true) (hsm : s ≤ m) (hl : listed.getD m false = true)
    (hmin : ∀ c, isChain P ops.toList c = true → s ≤ c → c < m → False) : ∃ φ', InvW P base N ops sf φ0 w0 ds (m + 1) pd listed φ' w a := by
  obtain ⟨o, ho, hoa, pe⟩ := I.pend m hm hsm hl
  have hlt := lt_of_some ho
  have he : (sf s).h = (sf m).h := R.heap_eq I.sle (Nat.le_of_lt hlt) fun c hc => ⟨fun q => by omega, fun q => by
    rcases Nat.lt_or_ge c s with k | k
    · exact k
    · exact (hmin c hc k q).elim⟩
  obtain ⟨el, z, t, r, k1, k2, k3, k4, k5, k6⟩ := alloc_step hoa (R.step m o ho)
  obtain ⟨el', z', arr, ty, fz, p1, p2, p3, p4, p5⟩ := pe.cells
  rw [k1] at p1; cases p1
  rw [k3] at p2; cases p2
  have S0 := I.mem
  rw [he] at S0
  obtain ⟨q1, q2⟩ := adopt_step H0 S0 pe.new pe.lt pe.free p3 p4 (p5 φ w) k4
  have hn : φ (sf m).h.next 0 = none := (S0.hr.fresh _ (Nat.le_refl _)).2 0
  have hext : Ext φ (addE φ (sf m).h.next 0 ⟨pd m, 0, 0, (cellsA z).length⟩) := addE_ext hn
  have mono : ∀ x v, VRd φ w x v → VRd (addE φ (sf m).h.next 0 ⟨pd m, 0, 0, (cellsA z).length⟩) w x v := fun x v k => k.imp id fun q => q.mono hext (Rows.refl _)
  refine ⟨addE φ (sf m).h.next 0 ⟨pd m, 0, 0, (cellsA z).length⟩, I.size, I.down, hlt, .inr (by rw [Nat.add_sub_cancel]; exact hm), ?_, ?_, ?_, ?_, I.tsize, ?_, ?_, I.defers⟩
  · intro c hc hcm
    by_cases q : c = m
    · rw [q]; exact hl
    · refine I.below c hc ?_
      rcases Nat.lt_or_ge c s with k | k
      · exact k
      · exact (hmin c hc k (by omega)).elim
  · intro c hc hcm hlc
    obtain ⟨x, hx, hxa, pe'⟩ := I.pend c hc (by omega) hlc
    refine ⟨x, hx, hxa, pe'.dst, pe'.new, pe'.lt, ?_, pe'.cells⟩
    intro b g c0 e ec
    unfold addE at e
    split at e
    · cases e
      have := I.dist c m hc hm (by omega) hsm hlc hl ec.symm
      omega
    · exact pe'.free b g c0 e ec
  · intro c c' hc hc' hcs hcs' l l' e
    exact I.dist c c' hc hc' (by omega) (by omega) l l' e
  · rw [k5]; exact q2
  · intro j x t' hj hx hjs hxt
    by_cases q : j = m
    · subst q
      rw [ho] at hx; cases hx
      rw [k2] at hxt; cases hxt
      obtain ⟨g1, g2⟩ := put_at k6
      rw [g1]
      obtain ⟨t2, d1, d2⟩ := pe.dst
      rw [k2] at d1; cases d1
      rw [d2, Option.getD_some]
      refine .inr (.ptr _ _ ⟨⟨pd j, 0, 0, (cellsA z).length⟩, ?_, rfl, Nat.le_refl _, rfl⟩)
      show addE φ (sf j).h.next 0 ⟨pd j, 0, 0, (cellsA z).length⟩ r.1 0 = _
      rw [q1]; exact addE_same _ _ _ _
    · refine mono _ _ (I.wrote j x t' hj hx (fun hc => ?_) hxt)
      have := hjs hc
      rcases Nat.lt_or_ge j s with k | k
      · exact k
      · exact (hmin j hc k (by omega)).elim
  · intro t' ht' hno
    exact mono _ _ (I.kept t' ht' hno)
theorem least {p : Nat → Prop} (h : ∃ m, p m) : ∃ m, p m ∧ ∀ k, k < m → ¬ p k := by
  obtain ⟨m, hm⟩ := h
  induction m using Nat.strongRecOn with
  | _ m ih =>
    by_cases q : ∃ k, k < m ∧ p k
    · obtain ⟨k, k1, k2⟩ := q
      exact ih k k1 k2
    · exact ⟨m, hm, fun k k1 k2 => q ⟨k, k1, k2⟩⟩
theorem InvW.advance (R : Run P glob call N ops sf) (H0 : HR base φ0 (sf 0).h w0) : ∀ (n : Nat) {s : Nat} {φ : Emb}, ops.size - s ≤ n → InvW P base N ops sf φ0 w0 ds s pd listed φ w a → ∃ s' φ', Inv P base N ops sf φ0 w0 ds s' pd listed φ' w a
  | n, s, φ, hn, I => by
    by_cases hg : ∀ c, isChain P ops.toList c = true → s ≤ c → listed.getD c false = true → ∃ c', isChain P ops.toList c' = true ∧ s ≤ c' ∧ c' < c ∧ ¬ listed.getD c' false = true
    · exact ⟨s, φ, I, hg⟩
    · have hx : ∃ c, isChain P ops.toList c = true ∧ s ≤ c ∧ listed.getD c false = true ∧ ∀ c', isChain P ops.toList c' = true → s ≤ c' → c' < c → listed.getD c' false = true := by
        apply Classical.byContradiction
        intro hno
        refine hg fun c h1 h2 h3 => ?_
        apply Classical.byContradiction
        intro hno2
        refine hno ⟨c, h1, h2, h3, fun c' g1 g2 g3 => ?_⟩
        apply Classical.byContradiction
        intro g4
        exact hno2 ⟨c', g1, g2, g3, g4⟩
      obtain ⟨c, h1, h2, h3, h4⟩ := hx
      obtain ⟨m, ⟨m1, m2, m3⟩, m4⟩ := least (p := fun m => isChain P ops.toList m = true ∧ s ≤ m ∧ m ≤ c) ⟨c, h1, h2, Nat.le_refl _⟩
      have hlm : listed.getD m false = true := by
        rcases Nat.lt_or_ge m c with q | q
        · exact h4 m m1 m2 q
        · have : m = c := by omega
          rw [this]; exact h3
      obtain ⟨φ', I'⟩ := I.adopt R H0 m1 m2 hlm (fun c' g1 g2 g3 => m4 c' g3 ⟨g1, g2, by omega⟩)
      have hms : m < ops.size := by obtain ⟨x, hx, _⟩ := chain_some m1; exact lt_of_some hx
      match n, hn with
      | 0, hn => exact absurd hn (by omega)
      | n + 1, hn => exact InvW.advance R H0 n (by omega) I'
/-- an operation that may be done, done -/
theorem any_step (hc : CallOk P base glob call) (R : Run P glob call N ops sf) (h0 : ∀ t, N ≤ t → (sf 0).fr.get t = none) (H0 : HR base φ0 (sf 0).h w0) (G0 : GlobOk glob φ0 w0)
    (I : Inv P base N ops sf φ0 w0 ds s pd listed φ w a) {i : Nat} (hready : i ∈ Region.ready .any ops listed) {K : Act → World → Prop}
    (hK : ∀ s' pd' φ' w' a', Inv P base N ops sf φ0 w0 ds s' pd' (listed.setIfInBounds i true) φ' w' a' → K a' w') : wpOp P ops Q i K a w := by
  obtain ⟨hn, o, hi, hr0⟩ := mem_ready.1 hready
  have hr : ∀ e ∈ edgesA o, listed.getD e false = true := by
    intro e he
    unfold edgesA at he
    obtain ⟨x, hx, rfl⟩ := List.mem_map.1 he
    obtain ⟨hx1, hx2⟩ := List.mem_filter.1 hx
    exact hr0 x (by simpa using hx1) hx2
  have hlt := lt_of_some hi
  have hls : i < listed.size := by rw [I.size]; exact hlt
  have hnot := listed_not I.size hlt hn
  have hvals : ∀ d ∈ o.looksAt ops, VRd φ w (((sf i).fr.get d).getD .u) (a.tmps.getD d undef) := fun d hd => I.vals R h0 hi hn hr hd
  have hst := R.step i o hi
  have hgl : guardLive ops (sf i).fr o = true := by
    cases q : guardLive ops (sf i).fr o with
    | true => rfl
    | false => unfold stepD at hst; rw [q] at hst; cases hst
  have hwant := want_loc hvals hgl
  have hs1 := I.sle
  have hs4 := I.mem
  have G : GlobOk glob φ w := G0.step hs4
  have hρ := eval_loc (a := a) G hvals
  have fin : ∀ {s' pd' φ' w' u}, InvW P base N ops sf φ0 w0 ds s' pd' (listed.setIfInBounds i true) φ' w' (a.put o.dst u) → K (a.put o.dst u) w' := by
    intro s' pd' φ' w' u J
    obtain ⟨s2, φ2, J2⟩ := J.advance R H0 ops.size (by omega)
    exact hK s2 pd' φ2 w' _ J2
  by_cases hal : isAllocO o = true
  · -- a new variable, made now
    obtain ⟨el, z, t, r, k1, k2, k3, k4, k5, k6⟩ := alloc_step hal hst
    have hk : kindA P o = 2 := by unfold kindA; rw [k1]
    have hci : isChain P ops.toList i = true := by rw [chain_of hi, hk]; rfl
    have hsi : s ≤ i := by
      rcases Nat.lt_or_ge i s with q | q
      · exact absurd (I.below i hci q) hnot
      · exact q
    have hw : wantA ops (sf i).fr o = true := by
      have hg : o.guard = none := by
        unfold isAllocO at hal
        rw [k1] at hal
        simp only [Bool.and_eq_true, Option.isNone_iff_eq_none] at hal
        exact hal.1
      unfold wantA; rw [hg]
    unfold wpOp
    simp only [hi]
    rw [← hwant, hw, if_pos rfl]
    refine .inl ?_
    obtain ⟨zv, z1, z2⟩ := run_zeroT' k3
    unfold Oper.wp
    have hexec : (execOp a.eval o).run P w = .ok (.value (.pointer (some ⟨w.heap.size, 0, none⟩))) (w.alloc (.cells zv.cells el)) := by
      unfold execOp
      rw [k1]
      simp only [Instr.alloc, Sem.run_bind, z1, Result.andThen_ok]
      rfl
    rw [hexec, Oper.upon_value]
    have st := alloc_stay hs4.hr (.cells zv.cells el)
    have hnew : w0.heap.size ≤ w.heap.size := hs4.kept.size
    refine fin (I.toInvW.put R hi hn hr (s' := s) (pd' := fun c => if c = i then w.heap.size else pd c) (fun c hc => if_neg hc) hs1 I.sat (Nat.le_refl _) (fun c hc q => .inr (I.below c hc q)) (fun c _ _ q => q) (hs4.trans H0 st) st.keep st.kept.size (fun _ _ k => k.step st)
      (fun q => absurd (q hci) (by omega)) fun _ _ => ⟨hal, ⟨⟨t, k2, ?_⟩, ?_, ?_, ?_, ?_⟩, ?_⟩)
    · rw [k2, if_pos rfl]
      have htN := (put_at k6).2
      show (a.tmps.setIfInBounds t _).getD t undef = _
      rw [Array.getD_eq_getD_getElem?, Array.getElem?_setIfInBounds_self, if_pos (by rw [I.tsize]; exact htN)]
      rfl
    · rw [if_pos rfl]; exact hnew
    · rw [if_pos rfl, alloc_size]; omega
    · intro b g c e
      rw [if_pos rfl]
      have := hs4.hr.range _ _ _ e
      omega
    · refine ⟨el, z, zv.cells, el, (0, 0), k1, k3, ?_, by have := nofrozen zv.cells.toList; rwa [Array.length_toList] at this, fun φ w => cells_VR (z2 φ w)⟩
      rw [if_pos rfl]
      exact alloc_new w _
    · intro c hcc hcs hl e
      rw [if_pos rfl] at e
      obtain ⟨x, _, _, pe⟩ := I.pend c hcc hcs hl
      have := pe.lt
      omega
  have hna : isAllocO o = false := by simpa using hal
  -- the memory behind an operation that is no link of the chain
  have stay : ∀ {φ' w' u}, kindA P o ≠ 2 → Step base φ (sf s).h w φ' (sf s).h w' → (∃ v, putA N (sf i).fr o.dst v = some (sf (i + 1)).fr ∧ VR φ' w' v u) → K (a.put o.dst u) w' := by
    intro φ' w' u hk st hv
    have hci : isChain P ops.toList i = false := by rw [chain_of hi]; simpa using hk
    exact fin (I.toInvW.put R hi hn hr (s' := s) (pd' := pd) (fun _ _ => rfl) hs1 I.sat (Nat.le_refl _) (fun c hcc q => .inr (I.below c hcc q)) (fun c _ _ q => q) (hs4.trans H0 st) st.keep st.kept.size (fun _ _ k => k.step st)
      (fun _ => hv) fun q => by rw [hci] at q; cases q)
  have hcs : kindA P o = 2 → s ≤ i ∧ ∀ c, isChain P ops.toList c = true → s ≤ c → c < i → False := by
    intro hk
    have hci : isChain P ops.toList i = true := by rw [chain_of hi, hk]; rfl
    have hall := I.toInvW.chainW R hi hr hk hna
    refine ⟨?_, fun c hcc q1 q2 => ?_⟩
    · rcases Nat.lt_or_ge i s with q | q
      · exact absurd (I.below i hci q) hnot
      · exact q
    · obtain ⟨c', g1, g2, g3, g4⟩ := I.greedy c hcc q1 (hall c hcc q2)
      exact g4 (hall c' g1 (by omega))
  have go : ∀ {φ' w' u} {h1 : Heap}, kindA P o = 2 → (sf (i + 1)).h = h1 → Step base φ (sf i).h w φ' h1 w' → (∃ v, putA N (sf i).fr o.dst v = some (sf (i + 1)).fr ∧ VR φ' w' v u) → K (a.put o.dst u) w' := by
    intro φ' w' u h1 hk e1 st hv
    obtain ⟨c1, c2⟩ := hcs hk
    have hci : isChain P ops.toList i = true := by rw [chain_of hi, hk]; rfl
    have he : (sf s).h = (sf i).h := R.heap_eq hs1 (Nat.le_of_lt hlt) fun c hcc => ⟨fun q => by omega, fun q => by
      rcases Nat.lt_or_ge c s with k | k
      · exact k
      · exact (c2 c hcc k q).elim⟩
    have hm : Step base φ0 (sf 0).h w0 φ' (sf (i + 1)).h w' := by
      rw [e1]; rw [he] at hs4; exact hs4.trans H0 st
    refine fin (I.toInvW.put R hi hn hr (s' := i + 1) (pd' := pd) (fun _ _ => rfl) hlt (.inr (by rw [Nat.add_sub_cancel]; exact hci)) (by omega) ?_ ?_ hm st.keep st.kept.size (fun _ _ k => k.step st) (fun _ => hv) fun _ q => absurd q (by omega))
    · intro c hcc q
      by_cases z : c = i
      · exact .inl z
      · exact .inr (I.toInvW.chainW R hi hr hk hna c hcc (by omega))
    · intro c hcc hl q
      have hne : c ≠ i := by rintro rfl; exact hnot hl
      rcases Nat.lt_or_ge c s with k | k
      · exact k
      · exact (c2 c hcc k (by omega)).elim
  have hskip : kindA P o = 2 → (sf s).h = (sf i).h := fun hk => by
    obtain ⟨c1, c2⟩ := hcs hk
    exact R.heap_eq hs1 (Nat.le_of_lt hlt) fun c hcc => ⟨fun q => by omega, fun q => by
      rcases Nat.lt_or_ge c s with k | k
      · exact k
      · exact (c2 c hcc k q).elim⟩
  unfold wpOp
  simp only [hi]
  unfold stepD at hst
  rw [hgl, cond_true] at hst
  cases hw : wantA ops (sf i).fr o with
  | false =>
    rw [hw, cond_false, Option.map_eq_some_iff] at hst
    obtain ⟨f, hf, e⟩ := hst
    have e1 : (sf (i + 1)).fr = f := by rw [← e]; rfl
    have e2 : (sf (i + 1)).h = (sf i).h := by rw [← e]; rfl
    rw [← hwant, hw, if_neg (by decide)]
    by_cases hk : kindA P o = 2
    · exact go hk e2 (by have := hskip hk; rw [← this]; exact Step.refl hs4.hr) ⟨.u, by rw [e1]; exact hf, .u⟩
    · exact stay hk (Step.refl hs4.hr) ⟨.u, by rw [e1]; exact hf, .u⟩
  | true =>
    rw [hw, cond_true, Option.bind_eq_some_iff] at hst
    obtain ⟨r, hr', hst⟩ := hst
    rw [← hwant, hw, if_pos rfl]
    refine .inl ?_
    by_cases hk : kindA P o = 2
    · have he := hskip hk
      have n := op_ok hs4.hr hρ (by rw [he]; exact hr')
      rw [he] at n
      unfold Oper.wp
      unfold afterA at hst
      cases r with
      | val v h1 =>
        obtain ⟨φ', w', u, q1, q2, q3⟩ := n
        rw [q1, Oper.upon_value]
        simp only [Option.map_eq_some_iff] at hst
        obtain ⟨f, hf, e⟩ := hst
        have e1 : (sf (i + 1)).fr = f := by rw [← e]; rfl
        have e2 : (sf (i + 1)).h = h1 := by rw [← e]; rfl
        exact go hk e2 q2 ⟨v, by rw [e1]; exact hf, q3⟩
      | skip h1 =>
        obtain ⟨φ', w', q1, q2⟩ := n
        rw [q1, Oper.upon_skip]
        simp only [Option.map_eq_some_iff] at hst
        obtain ⟨f, hf, e⟩ := hst
        have e1 : (sf (i + 1)).fr = f := by rw [← e]; rfl
        have e2 : (sf (i + 1)).h = h1 := by rw [← e]; rfl
        exact go hk e2 q2 ⟨.u, by rw [e1]; exact hf, .u⟩
      | enter g xs =>
        obtain ⟨us, q1, q2⟩ := n
        simp only [Option.bind_eq_some_iff] at hst
        obtain ⟨r, hr2, hst⟩ := hst
        have HS : HR base φ (sf i).h w := by rw [← he]; exact hs4.hr
        rcases hc g xs (sf i).h r hr2 φ w us HS G q2 with ⟨c1, c2⟩ | ⟨v, φ', w', c1, st, hv⟩
        case inr =>
          rw [q1, c1, Oper.upon_value]
          simp only [Option.map_eq_some_iff] at hst
          obtain ⟨f, hf, e⟩ := hst
          have e1 : (sf (i + 1)).fr = f := by rw [← e]; rfl
          have e2 : (sf (i + 1)).h = r.2 := by rw [← e]; rfl
          exact go hk e2 st ⟨_, by rw [e1]; exact hf, hv⟩
        rw [q1, c1, Oper.upon_enter]
        refine c2.mono ?_
        rintro _ w' ⟨v, φ', rfl, st, hv⟩
        simp only [Option.map_eq_some_iff] at hst
        obtain ⟨f, hf, e⟩ := hst
        have e1 : (sf (i + 1)).fr = f := by rw [← e]; rfl
        have e2 : (sf (i + 1)).h = r.2 := by rw [← e]; rfl
        exact go hk e2 st ⟨_, by rw [e1]; exact hf, hv⟩
    · -- its value is the same, whenever it is done
      have hval : ∃ v, r = .val v (sf i).h ∧ aop P (evalR glob (sf i).fr (o.looksAt ops)) (sf s).h o = some (.val v (sf s).h) := by
        rcases kind_le (P := P) o with q | q | q
        · obtain ⟨v, k1, k2⟩ := free_ok q hr'
          exact ⟨v, k1, k2 _⟩
        · obtain ⟨v, rfl⟩ := read_ok q hr'
          refine ⟨v, rfl, ?_⟩
          cases hb : between P ops.toList i s with
          | false =>
            have he : (sf s).h = (sf i).h := R.heap_eq hs1 (Nat.le_of_lt hlt) fun c hcc => by
              unfold between at hb
              rw [List.any_eq_false] at hb
              obtain ⟨x, hx, _⟩ := chain_some hcc
              have := hb c (by rw [List.mem_range, Array.length_toList]; exact lt_of_some hx)
              simp only [hcc, Bool.true_and, bne_iff_ne, ne_eq, Decidable.not_not, decide_eq_decide] at this
              omega
            rw [he]; exact hr'
          | true =>
            have hwin : window P (preA ops.toList []) ops.toList i s = true := by
              unfold window
              rw [List.all_eq_true]
              intro c _
              cases hcc : isChain P ops.toList c with
              | false => rfl
              | true =>
                simp only [Bool.not_true, Bool.false_or, Bool.and_eq_true, Bool.or_eq_true, Bool.not_eq_true', decide_eq_true_eq]
                obtain ⟨x, hx, _⟩ := chain_some hcc
                constructor
                · cases hq : ((preA ops.toList []).getD i []).contains c with
                  | false => exact .inl rfl
                  | true => exact .inr (I.calm R hi hr (fun z => absurd z hk) (by simpa [Vai.pre] using hq) hcc)
                · cases hq : ((preA ops.toList []).getD c []).contains i with
                  | false => exact .inl rfl
                  | true =>
                    refine .inr (Nat.le_of_not_lt fun k => ?_)
                    have hl := I.below c hcc k
                    exact hnot (I.toInvW.pre R hx (I.down c x hl hx) i (by simpa [Vai.pre] using hq))
            rcases R.steady i s o hi q hs1 I.sat hwin hb with k | ⟨v', h1, h2, k1, k2⟩
            · rw [hw] at k; cases k
            · rw [hr'] at k1
              cases k1
              obtain ⟨v2, k3⟩ := read_ok q k2
              cases k3
              exact k2
        · exact absurd q hk
      obtain ⟨v, rfl, hv⟩ := hval
      obtain ⟨φ', w', u, q1, q2, q3⟩ := op_ok hs4.hr hρ hv
      unfold Oper.wp
      rw [q1, Oper.upon_value]
      unfold afterA at hst
      simp only [Option.map_eq_some_iff] at hst
      obtain ⟨f, hf, e⟩ := hst
      have e1 : (sf (i + 1)).fr = f := by rw [← e]; rfl
      exact stay hk q2 ⟨v, by rw [e1]; exact hf, q3⟩
end
end Go.Vai
