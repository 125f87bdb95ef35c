/- The abstract machine: regions that draw their order, whichever order is drawn. -/
import Derived.Test.YtbndnhkhphkjgaaGreatDoorVai13d
namespace Go.Vai
set_option linter.unusedVariables false
set_option linter.unusedSimpArgs false
set_option linter.unusedSectionVars false
variable [Lane]
variable {P : Program} {base : Nat} {φ φ' φ'' : Emb} {h h' h'' : Heap} {w w' w'' : World}
section
variable {glob : Nat → Option AV} {call : Nat → List AV → Heap → Option (AV × Heap)} {N : Nat} {Q : Exit → Act → World → Prop} {ops : Array Oper}

theorem kind_le (o : Oper) : kindA P o = 0 ∨ kindA P o = 1 ∨ kindA P o = 2 := by
  unfold kindA
  split <;> first | exact .inl rfl | exact .inr (.inl rfl) | exact .inr (.inr rfl) | (split <;> first | exact .inl rfl | exact .inr (.inl rfl) | exact .inr (.inr rfl))
/-- who must be ahead -/
def pre (ops : Array Oper) (i : Nat) : List Nat := (preA ops.toList []).getD i []
theorem preA_old : ∀ (l : List Oper) (acc : List (List Nat)) (i : Nat), i < acc.length → (preA l acc).getD i [] = acc.getD i []
  | [], acc, i, _ => rfl
  | o :: r, acc, i, hi => by
    unfold preA
    rw [preA_old r _ i (by simp; omega)]
    simp only [List.getD_eq_getElem?_getD]
    rw [List.getElem?_append_left hi]
theorem preOf_mem {i j : Nat} {o : Oper} {acc : List (List Nat)} (h : j ∈ preOf i o acc) : j ∈ edgesA o ∨ ∃ e ∈ edgesA o, j ∈ acc.getD e [] := by
  unfold preOf at h
  obtain ⟨_, h⟩ := List.mem_filter.1 h
  simp only [Bool.or_eq_true, List.contains_iff_mem, List.any_eq_true] at h
  exact h
theorem preA_at : ∀ (l : List Oper) (acc : List (List Nat)) (k : Nat) (o : Oper), l[k]? = some o → (∀ x ∈ edgesA o, x < acc.length + k) →
    ∀ j ∈ (preA l acc).getD (acc.length + k) [], j ∈ edgesA o ∨ ∃ e ∈ edgesA o, j ∈ (preA l acc).getD e []
  | [], acc, k, o, e, _ => by simp at e
  | a :: r, acc, 0, o, e, hx => by
    simp only [List.getElem?_cons_zero, Option.some.injEq] at e
    subst e
    unfold preA
    intro j hj
    rw [preA_old r _ _ (by simp)] at hj
    have hg : (acc ++ [preOf acc.length a acc]).getD (acc.length + 0) [] = preOf acc.length a acc := by
      simp only [Nat.add_zero, List.getD_eq_getElem?_getD]
      rw [List.getElem?_append_right (Nat.le_refl _)]
      simp
    rw [hg] at hj
    rcases preOf_mem hj with q | ⟨e, he, q⟩
    · exact .inl q
    · refine .inr ⟨e, he, ?_⟩
      have hlt : e < acc.length := hx e he
      rw [preA_old r _ e (by simp; omega)]
      simp only [List.getD_eq_getElem?_getD] at q ⊢
      rw [List.getElem?_append_left hlt]
      exact q
  | a :: r, acc, k + 1, o, e, hx => by
    simp only [List.getElem?_cons_succ] at e
    unfold preA
    have := preA_at r (acc ++ [preOf acc.length a acc]) k o e (by intro x q; have := hx x q; simp; omega)
    rw [show acc.length + (k + 1) = (acc ++ [preOf acc.length a acc]).length + k by simp; omega]
    exact this
theorem pre_at {i : Nat} {o : Oper} (hi : ops[i]? = some o) (hx : ∀ x ∈ edgesA o, x < i) : ∀ j ∈ pre ops i, j ∈ edgesA o ∨ ∃ e ∈ edgesA o, j ∈ pre ops e := by
  have := preA_at ops.toList [] i o (by simpa using hi) (by simpa using hx)
  simpa [pre] using this
theorem pre_closed (hb : ∀ i o, ops[i]? = some o → ∀ x ∈ edgesA o, x < i) {S : Nat → Prop} (hd : ∀ i o, S i → ops[i]? = some o → ∀ e ∈ edgesA o, S e) (hs : ∀ i, S i → i < ops.size) :
    ∀ (i : Nat) (o : Oper), ops[i]? = some o → (∀ e ∈ edgesA o, S e) → ∀ j ∈ pre ops i, S j := by
  intro i
  induction i using Nat.strongRecOn with
  | _ i ih =>
    intro o hi he j hj
    rcases pre_at hi (hb i o hi) j hj with hj | ⟨e, h1, h2⟩
    · exact he j hj
    · skip
      have hlt := hb i o hi e h1
      have hse := he e h1
      obtain ⟨oe, hoe⟩ : ∃ oe, ops[e]? = some oe := ⟨ops[e]'(hs e hse), by simp [hs e hse]⟩
      exact ih e hlt oe hoe (hd e oe hse hoe) j h2
/-- what the check of a region says -/
structure Ordered (P : Program) (ops : Array Oper) : Prop where
  back : ∀ i o, ops[i]? = some o → ∀ x ∈ edgesA o, x < i
  pair : ∀ j i x o, j < i → ops[j]? = some x → ops[i]? = some o → (j ∈ pre ops i ∧ (x.dst = none ∨ x.dst ≠ o.dst)) ∨ (x.apart ops o = true ∧ (kindA P x ≠ 2 ∨ kindA P o ≠ 2 ∨ isAllocO o = true))
  loose : ∀ i o j x c, ops[i]? = some o → kindA P o ≠ 2 → ops[j]? = some x → isAllocO x = true → c < j → isChain P ops.toList c = true → c ∉ pre ops j → j ∉ pre ops i
theorem orderly_ok (e : orderly P ops = true) : Ordered P ops := by
  unfold orderly at e
  rw [Bool.and_eq_true] at e
  obtain ⟨eL, e⟩ := e
  rw [List.all_eq_true] at e
  have e' : ∀ i o, ops[i]? = some o → _ := fun i o hi => e (o, i) (by rw [List.mk_mem_zipIdx_iff_getElem?]; simpa using hi)
  refine ⟨fun i o hi x hx => ?_, fun j i x o hlt hj hi => ?_, ?_⟩
  · have := e' i o hi
    simp only [Bool.and_eq_true, List.all_eq_true, decide_eq_true_eq] at this
    exact this.1 x hx
  · have := e' i o hi
    simp only [Bool.and_eq_true, List.all_eq_true, decide_eq_true_eq] at this
    have q := this.2 (x, j) (by rw [List.mk_mem_zipIdx_iff_getElem?, List.getElem?_take_of_lt hlt]; simpa using hj)
    simp only [pairOk, freely, Bool.or_eq_true, Bool.and_eq_true, List.contains_iff_mem, Option.isNone_iff_eq_none, bne_iff_ne] at q
    rcases q with q | q | q
    · exact .inl q
    · exact .inr ⟨q.1, q.2.elim .inl fun k => .inr (.inl k)⟩
    · exact .inr ⟨q.2, .inr (.inr q.1)⟩
  · intro i o j x c hi hk hj hx hcj hc hnc hin
    unfold looseOk at eL
    have hi' : i < ops.size := (Array.getElem?_eq_some_iff.1 hi).1
    have hj' : j < ops.size := (Array.getElem?_eq_some_iff.1 hj).1
    have q := List.all_eq_true.1 eL i (by rw [List.mem_range, Array.length_toList]; exact hi')
    have hci : isChain P ops.toList i = false := by
      unfold isChain
      rw [Array.getElem?_toList, hi]
      simpa using hk
    rw [hci, Bool.false_or] at q
    have q2 := List.all_eq_true.1 q j (by rw [List.mem_range, Array.length_toList]; exact hj')
    have hl : looseA P ops.toList j = true := by
      unfold looseA
      rw [Array.getElem?_toList, hj, Bool.and_eq_true]
      refine ⟨hx, ?_⟩
      rw [List.any_eq_true]
      refine ⟨c, List.mem_range.2 hcj, ?_⟩
      rw [hc, Bool.true_and]
      simpa [pre] using hnc
    rw [hl, Bool.true_and] at q2
    have : ((preA ops.toList []).getD i []).contains j = true := by simpa [pre] using hin
    rw [this] at q2
    cases q2
/-- one operation in the order of the text -/
theorem stepD_put {s s' : St} {o : Oper} (e : stepD P glob call N ops s o = some s') : ∃ v, putA N s.fr o.dst v = some s'.fr := by
  unfold stepD at e
  cases hgl : guardLive ops s.fr o with
  | false => rw [hgl] at e; cases e
  | true =>
  rw [hgl, cond_true] at e
  cases hw : wantA ops s.fr o with
  | false =>
    rw [hw, cond_false, Option.map_eq_some_iff] at e
    obtain ⟨f, hf, rfl⟩ := e
    exact ⟨_, hf⟩
  | true =>
    rw [hw, cond_true, Option.bind_eq_some_iff] at e
    obtain ⟨r, hr, e⟩ := e
    unfold afterA at e
    split at e
    · rw [Option.map_eq_some_iff] at e
      obtain ⟨f, hf, rfl⟩ := e
      exact ⟨_, hf⟩
    · rw [Option.map_eq_some_iff] at e
      obtain ⟨f, hf, rfl⟩ := e
      exact ⟨_, hf⟩
    · rw [Option.bind_eq_some_iff] at e
      obtain ⟨r, _, e⟩ := e
      rw [Option.map_eq_some_iff] at e
      obtain ⟨f, hf, rfl⟩ := e
      exact ⟨_, hf⟩
theorem stepD_heap {s s' : St} {o : Oper} (hk : kindA P o ≠ 2) (e : stepD P glob call N ops s o = some s') : s'.h = s.h := by
  unfold stepD at e
  cases hgl : guardLive ops s.fr o with
  | false => rw [hgl] at e; cases e
  | true =>
  rw [hgl, cond_true] at e
  cases hw : wantA ops s.fr o with
  | false =>
    rw [hw, cond_false, Option.map_eq_some_iff] at e
    obtain ⟨f, hf, rfl⟩ := e
    rfl
  | true =>
    rw [hw, cond_true, Option.bind_eq_some_iff] at e
    obtain ⟨r, hr, e⟩ := e
    have : ∃ v, r = .val v s.h := by
      rcases kind_le (P := P) o with q | q | q
      · obtain ⟨v, q, _⟩ := free_ok q hr; exact ⟨v, q⟩
      · exact read_ok q hr
      · exact absurd q hk
    obtain ⟨v, rfl⟩ := this
    unfold afterA at e
    simp only [Option.map_eq_some_iff] at e
    obtain ⟨f, hf, rfl⟩ := e
    rfl
/-- a region's states in the order of the text -/
structure Run (P : Program) (glob : Nat → Option AV) (call : Nat → List AV → Heap → Option (AV × Heap)) (N : Nat) (ops : Array Oper) (sf : Nat → St) : Prop where
  ord : Ordered P ops
  step : ∀ i o, ops[i]? = some o → stepD P glob call N ops (sf i) o = some (sf (i + 1))
  steady : ∀ i s o, ops[i]? = some o → kindA P o = 1 → s ≤ ops.size → (s = 0 ∨ isChain P ops.toList (s - 1) = true) → window P (preA ops.toList []) ops.toList i s = true → between P ops.toList i s = true →
    wantA ops (sf i).fr o = false ∨ ∃ v h' h'', aop P (evalR glob (sf i).fr (o.looksAt ops)) (sf i).h o = some (.val v h') ∧ aop P (evalR glob (sf i).fr (o.looksAt ops)) (sf s).h o = some (.val v h'')
theorem put_get {fr fr' : Fr} {dst : Option Tmp} {v : AV} (e : putA N fr dst v = some fr') {t : Nat} (h : dst ≠ some t) : fr'.get t = fr.get t := by
  unfold putA at e
  cases dst with
  | none => cases e; rfl
  | some d =>
    simp only at e
    split at e
    · rw [Tr.get_set e, if_neg (fun q => h (by rw [q]))]
    · cases e
theorem put_at {fr fr' : Fr} {d : Nat} {v : AV} (e : putA N fr (some d) v = some fr') : fr'.get d = some v ∧ d < N := by
  unfold putA at e
  simp only at e
  split at e
  · rename_i q; exact ⟨by rw [Tr.get_set e, if_pos rfl], q⟩
  · cases e
theorem Run.same {sf : Nat → St} (R : Run P glob call N ops sf) {t : Nat} : ∀ (k i : Nat), i + k ≤ ops.size → (∀ m o, i ≤ m → m < i + k → ops[m]? = some o → o.dst ≠ some t) → (sf (i + k)).fr.get t = (sf i).fr.get t
  | 0, i, _, _ => rfl
  | k + 1, i, hk, hn => by
    have hlt : i + k < ops.size := by omega
    obtain ⟨o, ho⟩ : ∃ o, ops[i + k]? = some o := ⟨ops[i + k], by simp [hlt]⟩
    obtain ⟨v, hv⟩ := stepD_put (R.step (i + k) o ho)
    rw [show i + (k + 1) = i + k + 1 by omega, put_get hv (hn (i + k) o (by omega) (by omega) ho)]
    exact R.same k i (by omega) fun m o h1 h2 => hn m o h1 (by omega)
theorem Run.heap {sf : Nat → St} (R : Run P glob call N ops sf) : ∀ (k i : Nat), i + k ≤ ops.size → (∀ m, i ≤ m → m < i + k → isChain P ops.toList m = false) → (sf (i + k)).h = (sf i).h
  | 0, i, _, _ => rfl
  | k + 1, i, hk, hn => by
    have hlt : i + k < ops.size := by omega
    obtain ⟨o, ho⟩ : ∃ o, ops[i + k]? = some o := ⟨ops[i + k], by simp [hlt]⟩
    have hc := hn (i + k) (by omega) (by omega)
    have hk2 : kindA P o ≠ 2 := by
      intro q
      unfold isChain at hc
      rw [Array.getElem?_toList, ho] at hc
      simp [q] at hc
    rw [show i + (k + 1) = i + k + 1 by omega, stepD_heap hk2 (R.step (i + k) o ho)]
    exact R.heap k i (by omega) fun m h1 h2 => hn m h1 (by omega)
theorem Run.out {sf : Nat → St} (R : Run P glob call N ops sf) (h0 : ∀ t, N ≤ t → (sf 0).fr.get t = none) : ∀ i, i ≤ ops.size → ∀ t, N ≤ t → (sf i).fr.get t = none
  | 0, _, t, ht => h0 t ht
  | i + 1, hi, t, ht => by
    obtain ⟨o, ho⟩ : ∃ o, ops[i]? = some o := ⟨ops[i], by simp [show i < ops.size by omega]⟩
    obtain ⟨v, hv⟩ := stepD_put (R.step i o ho)
    have hne : o.dst ≠ some t := by
      intro q
      rw [q] at hv
      have := (put_at hv).2
      omega
    rw [put_get hv hne]
    exact R.out h0 i (by omega) t ht
end
end Go.Vai
