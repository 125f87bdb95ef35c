/- The abstract machine: regions that draw their order: the whole region. -/
import Derived.Test.YtbndnhkhphkjgaaGreatDoorVai13g
namespace Go.Vai
set_option linter.unusedVariables false
set_option linter.unusedSimpArgs false
set_option linter.unusedSectionVars false
variable [Lane]
variable {P : Program} {base : Nat} {φ φ' φ'' : Emb} {h h' h'' : Heap} {w w' w'' : World}
section
variable {glob : Nat → Option AV} {call : Nat → List AV → Heap → Option (AV × Heap)} {N : Nat} {Q : Exit → Act → World → Prop} {ops : Array Oper} {sf : Nat → St} {φ0 : Emb} {w0 : World} {ds : List Deferred} {listed : Array Bool} {a : Act} {s : Nat} {pd : Nat → Nat}

theorem Inv.done (R : Run P glob call N ops sf) (h0 : ∀ t, N ≤ t → (sf 0).fr.get t = none) (H0 : HR base φ0 (sf 0).h w0) (I : Inv P base N ops sf φ0 w0 ds s pd listed φ w a)
    (hall : ∀ i, i < ops.size → listed.getD i false = true) (k : After base N φ0 (sf 0).h w0 ds (sf ops.size) (Q .normal)) : Q .normal a w := by
  have hs4 := I.mem
  have hcs : ∀ c, isChain P ops.toList c = true → c < s := by
    intro c hcc
    obtain ⟨x, hx, _⟩ := chain_some hcc
    have hlt := lt_of_some hx
    rcases Nat.lt_or_ge c s with q | q
    · exact q
    · exfalso
      obtain ⟨c', k1, k2, k3, k4⟩ := I.greedy c hcc q (hall c hlt)
      exact k4 (hall c' (by omega))
  have he : (sf s).h = (sf ops.size).h := R.heap_eq I.sle (Nat.le_refl _) fun c hcc => by
    obtain ⟨x, hx, _⟩ := chain_some hcc
    have hlt := lt_of_some hx
    exact ⟨fun _ => hlt, fun _ => hcs c hcc⟩
  rw [he] at hs4
  refine k φ w a hs4 ⟨I.tsize, ?_, R.out h0 ops.size (Nat.le_refl _)⟩ I.defers
  intro t ht
  by_cases hw : ∃ (i : Nat) (o : Oper), ops[i]? = some o ∧ o.dst = some t
  · obtain ⟨i, o, hi, hot⟩ := hw
    have hlt := lt_of_some hi
    have v := I.wrote i o t (hall i hlt) hi (fun hcc => hcs i hcc) hot
    have e : (sf ops.size).fr.get t = (sf (i + 1)).fr.get t := by
      have := R.same (t := t) (ops.size - (i + 1)) (i + 1) (by omega) (fun m y m1 m2 hy hyt => by
        rcases R.ord.pair i m o y (by omega) hi hy with ⟨_, q⟩ | ⟨q, _⟩
        · rcases q with q | q
          · rw [hot] at q; cases q
          · exact q (by rw [hot, hyt])
        · exact (Oper.apart_spec q).2.1 t hot hyt)
      rwa [show i + 1 + (ops.size - (i + 1)) = ops.size by omega] at this
    rw [e]; exact v
  · have e : (sf ops.size).fr.get t = (sf 0).fr.get t := by
      have := R.same (t := t) ops.size 0 (by omega) (fun m y _ _ hy hyt => hw ⟨m, y, hy, hyt⟩)
      simpa using this
    rw [e]
    exact I.kept t ht fun i o _ hi hot => hw ⟨i, o, hi, hot⟩
theorem all_listed (R : Run P glob call N ops sf) (hs : listed.size = ops.size) (hr : Region.ready .any ops listed = []) : ∀ i, i < ops.size → listed.getD i false = true := by
  intro i
  induction i using Nat.strongRecOn with
  | _ i ih =>
    intro hi
    cases hl : listed.getD i false with
    | true => rfl
    | false =>
      exfalso
      have hmem : i ∈ Region.ready .any ops listed := by
        rw [mem_ready]
        have hlt : i < listed.size := by omega
        refine ⟨?_, ops[i], by simp [hi], fun e he hb => ?_⟩
        · simpa [Array.getD_eq_getD_getElem?, Array.getElem?_eq_getElem hlt] using hl
        · have : e.on < i := R.ord.back i ops[i] (by simp [hi]) e.on (List.mem_map.2 ⟨e, List.mem_filter.2 ⟨by simpa using he, hb⟩, rfl⟩)
          exact ih e.on this (by omega)
      rw [hr] at hmem
      cases hmem
theorem any_go (hc : CallOk P base glob call) (R : Run P glob call N ops sf) (h0 : ∀ t, N ≤ t → (sf 0).fr.get t = none) (H0 : HR base φ0 (sf 0).h w0) (G0 : GlobOk glob φ0 w0)
    (k : After base N φ0 (sf 0).h w0 ds (sf ops.size) (Q .normal)) : ∀ (fuel : Nat) (L : List Nat) (listed : Array Bool) (s : Nat) (pd : Nat → Nat) (φ : Emb) (w : World) (a : Act),
      Inv P base N ops sf φ0 w0 ds s pd listed φ w a → L.length ≤ fuel → (∀ i, i < ops.size → listed.getD i false = false → i ∈ L) → wpAny P .any ops Q fuel listed a w
  | 0, L, listed, s, pd, φ, w, a, I, hL, hm => by
    have hnil : L = [] := List.length_eq_zero_iff.1 (by omega)
    subst hnil
    have hall : ∀ i, i < ops.size → listed.getD i false = true := by
      intro i hi
      cases hl : listed.getD i false with
      | true => rfl
      | false => cases hm i hi hl
    refine ⟨?_, I.done R h0 H0 hall k⟩
    cases hr : Region.ready .any ops listed with
    | nil => rfl
    | cons x l =>
      exfalso
      have hx : x ∈ Region.ready .any ops listed := by rw [hr]; exact List.mem_cons_self
      obtain ⟨h1, o, ho, _⟩ := mem_ready.1 hx
      exact listed_not I.size (lt_of_some ho) h1 (hall x (lt_of_some ho))
  | fuel + 1, L, listed, s, pd, φ, w, a, I, hL, hm => by
    refine ⟨fun hr => I.done R h0 H0 (all_listed R I.size hr) k, fun i hi => ?_⟩
    refine any_step hc R h0 H0 G0 I hi fun s' pd' φ' w' a' I' => ?_
    obtain ⟨h1, o, ho, _⟩ := mem_ready.1 hi
    have hlt := lt_of_some ho
    have hls : i < listed.size := by rw [I.size]; exact hlt
    have hn : listed.getD i false = false := by
      cases q : listed.getD i false with
      | false => rfl
      | true => exact absurd q (listed_not I.size hlt h1)
    have hin := hm i hlt hn
    refine any_go hc R h0 H0 G0 k fuel (L.erase i) _ s' pd' φ' w' a' I' ?_ ?_
    · rw [List.length_erase_of_mem hin]; omega
    · intro j hj hjl
      have hne : j ≠ i := by
        rintro rfl
        have := (set_getD (listed := listed) (j := j) hls).2 (.inl rfl)
        rw [this] at hjl; cases hjl
      have hjl' : listed.getD j false = false := by
        cases q : listed.getD j false with
        | false => rfl
        | true =>
          have := (set_getD (listed := listed) (j := j) hls).2 (.inr q)
          rw [this] at hjl; cases hjl
      exact (List.mem_erase_of_ne hne).2 (hm j hj hjl')
theorem states_spec : ∀ (l : List Oper) (st : St) (sts : List St), statesA P glob call N ops l st = some sts →
    sts.length = l.length + 1 ∧ sts[0]? = some st ∧ lastO sts = sts[l.length]? ∧ ∀ k o, l[k]? = some o → ∃ s s', sts[k]? = some s ∧ sts[k + 1]? = some s' ∧ stepD P glob call N ops s o = some s'
  | [], st, sts, e => by
    simp only [statesA, Option.some.injEq] at e
    subst e
    exact ⟨rfl, rfl, rfl, fun k o q => by simp at q⟩
  | o :: r, st, sts, e => by
    simp only [statesA, Option.bind_eq_some_iff, Option.map_eq_some_iff] at e
    obtain ⟨s1, h1, l, h2, rfl⟩ := e
    obtain ⟨q1, q2, q3, q4⟩ := states_spec r s1 l h2
    refine ⟨by simp [q1], rfl, ?_, ?_⟩
    · cases l with
      | nil => simp at q1
      | cons x l => show lastO (x :: l) = _; rw [q3]; simp
    · intro k x hk
      cases k with
      | zero =>
        simp only [List.getElem?_cons_zero, Option.some.injEq] at hk
        subst hk
        exact ⟨st, s1, rfl, by simpa using q2, h1⟩
      | succ k =>
        obtain ⟨s, s', k1, k2, k3⟩ := q4 k x (by simpa using hk)
        exact ⟨s, s', by simpa using k1, by simpa using k2, k3⟩
theorem any_ok (hc : CallOk P base glob call) (hm : P.follows .mixedOrders = true) {id : Nat} {st st' : St} (H : HR base φ st.h w) (G : GlobOk glob φ w) (f : FR N φ w st.fr a)
    (e : anyA P glob call N ops st = some st') (k : After base N φ st.h w a.defers st' (Q .normal)) : (Code.region id ops true).wp P Q a w := by
  unfold anyA at e
  cases ho : orderly P ops with
  | false => rw [ho] at e; cases e
  | true =>
  rw [ho, cond_true, Option.bind_eq_some_iff] at e
  obtain ⟨sts, hs, e⟩ := e
  cases hl : (looks P ops.toList).all (steady1 P glob ops sts) with
  | false => rw [hl] at e; cases e
  | true =>
  rw [hl, cond_true] at e
  obtain ⟨q1, q2, q3, q4⟩ := states_spec ops.toList st sts hs
  let sf : Nat → St := fun i => (sts[i]?).getD st
  have sfz : sf 0 = st := by show (sts[0]?).getD st = st; rw [q2]; rfl
  have sfn : sf ops.size = st' := by
    show (sts[ops.size]?).getD st = st'
    rw [q3, Array.length_toList] at e
    rw [e]; rfl
  have hat : ∀ i, i ≤ ops.size → sts[i]? = some (sf i) := by
    intro i hi
    show sts[i]? = some ((sts[i]?).getD st)
    have : i < sts.length := by rw [q1, Array.length_toList]; omega
    rw [List.getElem?_eq_getElem this]; rfl
  have R : Run P glob call N ops sf := by
    refine ⟨orderly_ok ho, ?_, ?_⟩
    · intro i o hi
      obtain ⟨s, s', k1, k2, k3⟩ := q4 i o (by simpa using hi)
      have hlt := lt_of_some hi
      rw [hat i (by omega)] at k1
      rw [hat (i + 1) (by omega)] at k2
      cases k1; cases k2
      exact k3
    · intro i s o hi hk hs1 hs2 hwin hb
      have hlt := lt_of_some hi
      have hmem : (i, s) ∈ looks P ops.toList := by
        unfold looks
        rw [List.mem_flatMap]
        refine ⟨i, by rw [List.mem_range, Array.length_toList]; exact hlt, ?_⟩
        rw [Array.getElem?_toList, hi]
        simp only [hk, beq_self_eq_true, if_true, List.mem_map, List.mem_filter, List.mem_range, Array.length_toList, Bool.and_eq_true, Bool.or_eq_true]
        exact ⟨s, ⟨by omega, ⟨by rcases hs2 with q | q; exact .inl (by simpa using q); exact .inr q, hwin⟩, hb⟩, rfl⟩
      have := List.all_eq_true.1 hl (i, s) hmem
      unfold steady1 at this
      simp only [hi, hat i (by omega), hat s hs1, Bool.or_eq_true, Bool.not_eq_true'] at this
      rcases this with q | q
      · exact .inl q
      · right
        revert q
        cases h1 : aop P (evalR glob (sf i).fr (o.looksAt ops)) (sf i).h o with
        | none => simp
        | some r1 =>
          cases r1 with
          | val v h1' =>
            cases h2 : aop P (evalR glob (sf i).fr (o.looksAt ops)) (sf s).h o with
            | none => simp
            | some r2 =>
              cases r2 with
              | val v' h2' =>
                intro q
                have := sameV_eq q
                subst this
                exact ⟨v, h1', h2', rfl, rfl⟩
              | skip _ => simp
              | enter _ _ => simp
          | skip _ => simp
          | enter _ _ => simp
  have hd := drew_step H (w.drawn + 1)
  refine wp_region_any hm ?_
  have I : Inv P base N ops sf φ { w with drawn := w.drawn + 1 } a.defers 0 (fun _ => 0) (Array.replicate ops.size false) φ { w with drawn := w.drawn + 1 } a := by
    have hno : ∀ i, ¬ (Array.replicate ops.size false).getD i false = true := by
      intro i
      rw [Array.getD_eq_getD_getElem?, Array.getElem?_replicate]
      split <;> simp
    refine ⟨⟨by simp, fun i o q => absurd q (hno i), by omega, .inl rfl, fun c _ q => by omega, fun c _ _ q => absurd q (hno c), fun c c' _ _ _ _ q => absurd q (hno c), ?_, f.size, fun i o t q => absurd q (hno i), ?_, rfl⟩, fun c _ _ q => absurd q (hno c)⟩
    · rw [sfz]; exact Step.refl hd.hr
    · intro t ht _
      rw [sfz]
      exact (f.get t ht).step hd
  refine any_go (Q := Q) hc R (by rw [sfz]; exact f.out) (by rw [sfz]; exact hd.hr) (G.step hd) ?_ ops.size (List.range ops.size) _ _ _ _ _ _ I (by simp) (fun i hi _ => by simpa using hi)
  rw [sfz, sfn]
  exact k.step H hd
end
end Go.Vai
