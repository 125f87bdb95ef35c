/- The abstract machine: a loop over a map, whichever order is drawn: what comes back to its head. -/
import Derived.Test.YtbndnhkhphkjgaaGreatDoorVai16
import Derived.Laws.IdiomRangeMap
namespace Go.Vai
set_option linter.unusedVariables false
set_option linter.unusedSimpArgs false
set_option linter.unusedSectionVars false
variable [Lane]
variable {P : Program} {base : Nat} {φ φ' φ'' : Emb} {h h' h'' : Heap} {w w' w'' : World}

/-- no slice without room -/
def plain0 : AV → Bool
  | .slice (some _) _ r _ => decide (0 < r)
  | .bool _ | .int _ _ | .str _ | .ptr _ | .slice none _ _ _ | .map _ | .nilf | .nilI | .u | .arg _ => true
  | _ => false
/-- what was a value in an elder view of the memory, and is one now, is one now in the elder view -/
theorem VR.back0 {x : AV} {u0 u1 : Value} (hp : plain0 x = true) (h0 : VR φ w x u0) (h1 : VR φ' w' x u1) (hx : Ext φ φ') : VR φ w' x u1 := by
  cases h1 with
  | u => exact .u
  | bool b => exact .bool b
  | int k n => exact .int k n
  | str l => exact .str l
  | nilPtr => exact .nilPtr
  | nilSlice => exact .nilSlice
  | nilMap => exact .nilMap
  | nilf => exact .nilf
  | nilI => exact .nilI
  | ptr a ad hl =>
    cases h0 with
    | ptr _ ad0 hl0 =>
    obtain ⟨c, q1, q2⟩ := hl
    obtain ⟨c0, r1, r2⟩ := hl0
    have := hx _ _ _ r1
    rw [q1] at this; cases this
    exact .ptr a ad ⟨c, r1, q2⟩
  | slice a ad n r sz cap hn hr hz he hh =>
    simp only [plain0, decide_eq_true_eq] at hp
    cases h0 with
    | slice _ ad0 _ _ _ cap0 hn0 hr0 hz0 he0 hh0 =>
    obtain ⟨hl0, _⟩ := hh0.resolve_left (by omega)
    obtain ⟨hl, hrow⟩ := hh.resolve_left (by omega)
    obtain ⟨c, q1, q2⟩ := hl
    obtain ⟨c0, r1, r2⟩ := hl0
    have := hx _ _ _ r1
    rw [q1] at this; cases this
    exact .slice a ad n r sz cap hn hr hz he (.inr ⟨⟨c, r1, q2⟩, hrow⟩)
  | map r c hc =>
    obtain ⟨u, hu⟩ : ∃ u, u = u0 := ⟨_, rfl⟩
    cases h0 with
    | map _ c0 hc0 =>
    have := hx _ _ _ hc0
    rw [hc] at this; cases this
    exact .map r c hc0
  | func f cs vs ha => simp [plain0] at hp
  | agg cs vs ha => simp [plain0] at hp
  | tup cs vs ha => simp [plain0] at hp
  | vec l x _ hl hs k => simp [plain0] at hp
  | arg i => exact .arg i
  | yld b c hc => simp [plain0] at hp
def plain1 (x : AV) : Bool :=
  match x with
  | .vec l => l.all plain0
  | x => plain0 x
theorem VR.back {x : AV} {u0 u1 : Value} (hp : plain1 x = true) (h0 : VR φ w x u0) (h1 : VR φ' w' x u1) (hx : Ext φ φ') : VR φ w' x u1 := by
  by_cases hv : ∃ l, x = .vec l
  · obtain ⟨l, rfl⟩ := hv
    cases h0 with
    | vec _ x0 _ hl hs k =>
    cases h1 with
    | vec _ x1 _ hl1 hs1 k1 =>
    rw [hl] at hl1
    cases hl1
    exact .vec _ _ _ hl hs (VR.back0 (List.all_eq_true.1 hp _ (List.mem_of_getElem? hl)) k k1 hx)
  · have hp0 : plain0 x = true := by
      cases x <;> first | exact hp | (exact absurd ⟨_, rfl⟩ hv)
    exact VR.back0 hp0 h0 h1 hx
/-- the objects that a loop's head knows are there again: the iterator has gone on -/
structure BackH (ib : Nat) (h h2 : Heap) : Prop where
  cells : ∀ b ro gen cs, h.objs.get b = some (.cells ro gen cs) → ∃ cs2, h2.objs.get b = some (.cells ro gen cs2) ∧ ∀ i lo v, cs.get i = some (lo, v) → cs2.get i = some (lo, v) ∧ plain1 v = true
  other : ∀ b x, h.objs.get b = some x → isCells x = false → b ≠ ib → h2.objs.get b = some x ∧ (∃ es, x = .map es ∧ ∀ e ∈ es, plain1 e.1 = true ∧ plain1 e.2 = true)
  it : ∃ m n cur2, h.objs.get ib = some (.mapit m n none) ∧ h2.objs.get ib = some (.mapit m n cur2)
theorem ents_back {es : List (AV × AV)} (hp : ∀ e ∈ es, plain1 e.1 = true ∧ plain1 e.2 = true) (hx : Ext φ φ') : ∀ {m0 m1 : List MapEntry}, All2 (EntR φ w) es m0 → All2 (EntR φ' w') es m1 → All2 (EntR φ w') es m1 := by
  intro m0 m1 h0 h1
  induction h1 generalizing m0 with
  | nil => exact .nil
  | cons h t ih =>
    cases h0 with
    | cons h0 t0 =>
    have q := hp _ (List.mem_cons_self)
    exact .cons ⟨VR.back q.1 h0.key h.key hx, VR.back q.2 h0.val h.val hx⟩ (ih (fun e he => hp e (by simp [he])) t0)
theorem HR.back {ib : Nat} (H : HR base φ h w) {h2 : Heap} (H2 : HR base φ' h2 w') (ext : Ext φ φ') (hsize : w.heap.size ≤ w'.heap.size) (hb : BackH ib h h2) : HR base φ h w' := by
  refine ⟨H.fresh, H2.low, fun b g c e => H2.range b g c (ext _ _ _ e), H.inj, H.los, ?_, ?_⟩
  · intro b ro gen cs g c e1 e2
    obtain ⟨p1, p2, p3, arr0, t0, fz0, pa0, pf0, pk0⟩ := H.cells b ro gen cs g c e1 e2
    obtain ⟨cs2, q1, q2⟩ := hb.cells b ro gen cs e1
    obtain ⟨r1, r2, r3, arr, t, fz, ra, rf, rk⟩ := H2.cells b ro gen cs2 g c q1 (ext _ _ _ e2)
    refine ⟨p1, p2, p3, arr, t, fz, ra, rf, ?_⟩
    intro i lo v hi hle hao hie
    obtain ⟨k1, k2⟩ := q2 i lo v hi
    obtain ⟨u0, _, v0, _⟩ := pk0 i lo v hi hle hao hie
    obtain ⟨u, m1, m2, m3⟩ := rk i lo v k1 hle hao hie
    exact ⟨u, m1, VR.back k2 v0 m2 ext, m3⟩
  · intro b x g c e1 hx e2
    obtain ⟨p1, p0, o0, po, pr⟩ := H.other b x g c e1 hx e2
    by_cases hbi : b = ib
    · subst hbi
      obtain ⟨m, n, cur2, k1, k2⟩ := hb.it
      rw [e1] at k1; cases k1
      obtain ⟨q1, q0, o, qo, qr⟩ := H2.other b _ g c k2 rfl (ext _ _ _ e2)
      refine ⟨p1, p0, o, qo, ?_⟩
      cases pr with
      | mapit _ _ c0 seen0 _ hc0 hs0 hd0 hcur0 =>
      cases qr with
      | mapit _ _ c1 seen1 _ hc1 hs1 hd1 hcur1 =>
      have := ext _ _ _ hc0
      rw [hc1] at this; cases this
      exact .mapit m n _ seen1 none hc0 hs1 hd1 (by simp)
    · obtain ⟨k1, es, rfl, hes⟩ := hb.other b x e1 hx hbi
      obtain ⟨q1, q0, o, qo, qr⟩ := H2.other b _ g c k1 hx (ext _ _ _ e2)
      refine ⟨p1, p0, o, qo, ?_⟩
      cases pr with
      | map _ ms0 k0 kb0 =>
      cases qr with
      | map _ ms1 k1' kb1 => exact .map es ms1 (ents_back hes ext k0 k1') kb1
/-- a frame's temporaries that are known at the head are as they were -/
def BackF (N : Nat) (fr fr2 : Fr) : Prop := ∀ t, t < N → fr.get t = some .any ∨ (fr2.get t = fr.get t ∧ plain1 ((fr.get t).getD .u) = true)
theorem FR.back {N : Nat} {fr fr2 : Fr} {a a' : Act} (f : FR N φ w fr a) (f2 : FR N φ' w' fr2 a') (hx : Ext φ φ') (hb : BackF N fr fr2) : FR N φ w' fr a' := by
  refine ⟨f2.size, fun t ht => ?_, f.out⟩
  rcases hb t ht with q | ⟨q1, q2⟩
  · rw [q]; exact .inl rfl
  · have g0 := f.get t ht
    have g2 := f2.get t ht
    rw [q1] at g2
    rcases g0 with g0 | g0
    · exact .inl g0
    · rcases g2 with g2 | g2
      · exact .inl g2
      · exact .inr (VR.back q2 g0 g2 hx)
/-- 'next' at an iterator over a map -/
theorem next_map (H : HR base φ h w) {ib mb n : Nat} {cur : Option Nat} {es : List (AV × AV)} {c : CL} {ty : TypeId} (hi : h.objs.get ib = some (.mapit mb n cur)) (hm : h.objs.get mb = some (.map es)) (hn : es.length = n) (hc : φ ib 0 = some c) :
    ∃ cm seen ms, φ mb 0 = some cm ∧ w.heap[c.cb]? = some (.mapIter (some cm.cb) n seen n) ∧ w.heap[cm.cb]? = some (.map ms ms.size) ∧ All2 (EntR φ w) es ms.toList ∧ seen.toList.Nodup ∧ (∀ s ∈ seen.toList, s < n) ∧
      ((Instr.next (.pointer (some ⟨c.cb, 0, none⟩)) false ty).run P w = .ok (.tuple #[.bool false]) w ∨
      ∃ j e m w1, es[j]? = some e ∧ ms[j]? = some m ∧ j ∉ seen.toList ∧ (w1 = w ∨ w1 = { w with drawn := w.drawn + 1 }) ∧
        (Instr.next (.pointer (some ⟨c.cb, 0, none⟩)) false ty).run P w = .ok (.tuple #[.bool true, m.key, m.val]) (setBlock w1 c.cb (.mapIter (some cm.cb) n (seen.push j) n))) := by
  obtain ⟨_, q0, o, q2, q3⟩ := H.other _ _ _ _ hi rfl hc
  cases q3 with
  | mapit _ _ cm seen _ hcm hs hd hcur =>
  obtain ⟨_, _, om, r2, r3⟩ := H.other _ _ _ _ hm rfl hcm
  cases r3 with
  | map _ ms k1 k2 =>
  have hsz : ms.size = n := by rw [← hn, k1.length, Array.length_toList]
  refine ⟨cm, seen, ms, hcm, q2, r2, k1, hd, hs, ?_⟩
  have hold : ∀ x ∈ ms.toList, x.born < n := by
    intro x hx
    obtain ⟨i, hi, rfl⟩ := List.getElem_of_mem hx
    have hi' : i < ms.size := by simpa using hi
    have := k2 i ms[i] (by simp [hi'])
    simp only [Array.getElem_toList]
    omega
  rw [hsz] at r2
  simp only [Instr.next, getObj, Sem.run_bind, Sem.run, q2, r2, Result.andThen, next_test_false seen ms n n hold (Nat.le_refl _), Bool.false_eq_true, if_false]
  have hleft : ∀ x, x ∈ (ms.filter fun e => !seen.contains e.born).toList → x ∈ ms.toList ∧ x.born ∉ seen.toList := by
    intro x hx
    simp at hx ⊢
    exact hx
  have hborn : ∀ x ∈ (ms.filter fun e => !seen.contains e.born).toList, x.born < n := fun x hx => hold x (hleft x hx).1
  generalize (ms.filter fun e => !seen.contains e.born) = L at hleft hborn ⊢
  have e1 : L.filter (fun x => decide (x.born < n)) = L := Array.filter_eq_self.2 (fun x hx => by simpa using hborn x (by simpa using hx))
  have e2 : L.filter (fun x => decide (x.born ≥ n)) = #[] := by
    rw [Array.filter_eq_empty_iff]
    intro x hx
    have := hborn x (by simpa using hx)
    simp
    omega
  simp only [e1, e2, Array.append_empty]
  by_cases h0 : L.size = 0
  · left
    have : L = #[] := Array.eq_empty_of_size_eq_zero h0
    subst this
    simp [choose, Sem.run, Question.forced]
  · right
    have hne : L.isEmpty = false := by simp [Array.isEmpty, h0]
    simp only [hne, Bool.false_eq_true, if_false, Array.empty_append, Array.size_map]
    have hch : ∃ (j : Nat) (w1 : World), j < L.size ∧ (w1 = w ∨ w1 = { w with drawn := w.drawn + 1 }) ∧ (choose (Question.mapNext L.size)).run P w = .ok j w1 := by
      by_cases hf : L.size ≤ 1
      · exact ⟨0, w, by omega, .inl rfl, by simp [choose, Sem.run, Question.forced, hf]⟩
      · exact ⟨_, { w with drawn := w.drawn + 1 }, Nat.mod_lt _ (by omega), .inr rfl, by
          simp only [choose, Sem.run, Question.forced, decide_eq_true_eq, hf, if_false, Question.cut]
          rfl⟩
    obtain ⟨j, w1, hj, hal, hrun⟩ := hch
    have hmem : L[j] ∈ L.toList := by simp
    obtain ⟨m1, m2⟩ := hleft _ hmem
    obtain ⟨i, hi', hie⟩ := List.getElem_of_mem m1
    have hi2 : i < ms.size := by simpa using hi'
    have hms : ms[i]? = some L[j] := by rw [← hie]; simp [hi2]
    have hbi : L[j].born = i := k2 i _ hms
    have hie' : i < es.length := by rw [hn, ← hsz]; exact hi2
    refine ⟨i, es[i], L[j], w1, by simp [hie'], hms, by rw [← hbi]; exact m2, hal, ?_⟩
    have hget : w1.heap[c.cb]? = some (.mapIter (some cm.cb) n seen n) := by rcases hal with rfl | rfl <;> exact q2
    simp only [hrun, Array.getElem?_map, Array.getElem?_eq_getElem hj, Option.map_some, Sem.run_bind, setObj, Sem.run, hget, Result.andThen]
    rw [hbi]
    rfl
end Go.Vai
