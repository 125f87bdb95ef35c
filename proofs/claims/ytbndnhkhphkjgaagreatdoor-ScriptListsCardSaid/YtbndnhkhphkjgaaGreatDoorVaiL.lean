/- The abstract machine: a law that goes once over a map, whichever order is drawn. -/
import Derived.Test.YtbndnhkhphkjgaaGreatDoorVai20
namespace Go.Vai
set_option linter.unusedVariables false
set_option linter.unusedSimpArgs false
set_option linter.unusedSectionVars false
def glN : Nat → Option AV := fun _ => none
/-- pieces one behind the other, the last of them ahead of a loop -/
def spineC : List Code → Code → Code → Code
  | [], X, Y => .seq X Y
  | [r], X, Y => .seq (.seq r X) Y
  | r :: rs, X, Y => .seq r (spineC rs X Y)
def codesA (P : Program) (call : CallT) (L N : Nat) : List Code → St → Option St
  | [], st => some st
  | c :: rs, st => match codeA P glN call L N c st with
    | some (.normal, st) => codesA P call L N rs st
    | _ => none
def codesB (P : Program) (call : CallT) (L N : Nat) : List Code → Fr → Heap → Option St
  | [], fr, h => some ⟨fr, h⟩
  | c :: rs, fr, h => match (codeB P glN L N c).f call fr h with
    | some (.normal, ⟨fr, h⟩) => codesB P call L N rs fr h
    | _ => none
theorem codesB_eq (P : Program) (call : CallT) (L N : Nat) : ∀ (rs : List Code) (fr : Fr) (h : Heap), codesB P call L N rs fr h = codesA P call L N rs ⟨fr, h⟩
  | [], fr, h => rfl
  | c :: rs, fr, h => by
    have e : ∀ [Lane], (codeB P glN L N c).f call fr h = codeA P glN call L N c ⟨fr, h⟩ := codeB_eq P glN L N call c fr h
    letI : Lane := ⟨0, fun _ => 0, by decide, []⟩
    simp only [codesB, codesA, e]
    cases codeA P glN call L N c ⟨fr, h⟩ with
    | none => rfl
    | some r =>
      obtain ⟨x, st⟩ := r
      cases x <;> try rfl
      exact codesB_eq P call L N rs st.fr st.h
theorem bnd_some {α β : Type} {x : Option α} {f : α → Option β} {y : β} (e : bnd x f = some y) : ∃ z, x = some z ∧ f z = some y := by
  cases x with
  | none => cases e
  | some z => exact ⟨z, rfl, e⟩
def headIs (it d : Nat) (l : List Oper) : Bool :=
  match l with
  | o :: _ => (match o.op with | .next (.tmp t) false => Nat.beq t it | _ => false) && (o.guard.isNone && (match o.dst with | some t => Nat.beq t d | none => false))
  | [] => false
theorem headIs_ok {it d : Nat} {l : List Oper} (e : headIs it d l = true) : ∃ o0, l = o0 :: l.drop 1 ∧ o0.op = .next (.tmp it) false ∧ o0.guard = none ∧ o0.dst = some d := by
  unfold headIs at e
  split at e
  case h_2 => cases e
  rename_i o l
  simp only [Bool.and_eq_true, Option.isNone_iff_eq_none] at e
  obtain ⟨e1, e2, e3⟩ := e
  refine ⟨o, rfl, ?_, e2, ?_⟩
  · split at e1
    case h_2 => cases e1
    rename_i t ho
    rw [ho, Nat.eq_of_beq_eq_true e1]
  · split at e3
    case h_2 => cases e3
    rename_i t hd
    rw [hd, Nat.eq_of_beq_eq_true e3]
theorem set_other {α : Type} {t t' : Tr α} {k : Nat} {x : α} (h : t.set k x = some t') (y : α) : ∃ t'', t.set k y = some t'' := by
  unfold Tr.set at h ⊢
  cases q : Nat.blt k 1099511627776 with
  | false => rw [q] at h; cases h
  | true => exact ⟨_, rfl⟩
section
variable (P : Program) (cl : CallT) (L N : Nat) (it d tc : Nat) (ops4 ops5 : Array Oper) (rest c4 c5 : Code)
/-- the state at the loop's head: what the loop writes is forgotten -/
def stOf (rs : List Code) (dead : List Nat) (args : List AV) : Option St :=
  bnd (argsF 0 args .nil) fun fr => bnd (codesB P cl L N rs fr noHeap) fun s => bnd (anyFr dead s.fr) fun fr => some ⟨fr, s.h⟩
def itOf (fr : Fr) : Option Nat := match fr.get it with | some (.ptr (some ⟨b, 0, 0, _⟩)) => some b | _ => none
/-- one round -/
def roundB (st : St) (ib mb n j : Nat) (e : AV × AV) : Bool :=
  match putA N st.fr (some d) (.tup [.bool true, e.1, e.2]) with
  | none => false
  | some fr1 => (match st.h.objs.set ib (.mapit mb n (some j)) with
    | none => false
    | some os1 => (match opsP P glN N { st.h with objs := os1 } (ops4.toList.drop 1) fr1 with
      | none => false
      | some fr2 => (match fr2.get tc with
        | some (.bool true) => (match opsP P glN N { st.h with objs := os1 } ops5.toList fr2 with
          | none => false
          | some fr3 => (match (codeB P glN L N rest).f cl fr3 st.h with
            | some (.normal, s2) => backHB ib st.h s2.h && backFB N st.fr s2.fr
            | _ => false))
        | _ => false)))
def someR (o : Option St) (lo hi : Nat) : Bool :=
  match o with
  | none => false
  | some st => (match itOf it st.fr with
    | none => false
    | some ib => (match st.h.objs.get ib with
      | some (.mapit mb n none) => (match st.h.objs.get mb with
        | some (.map es) => Nat.beq es.length n && ((es.zipIdx.drop lo).take (hi - lo)).all fun z => roundB P cl L N d tc ops4 ops5 rest st ib mb n z.2 z.1
        | _ => false)
      | _ => false))
def countR (m : Nat) (o : Option St) : Bool :=
  match o with
  | none => false
  | some st => (match itOf it st.fr with
    | none => false
    | some ib => (match st.h.objs.get ib with
      | some (.mapit _ n none) => Nat.beq n m && Nat.blt 0 m
      | _ => false))
def stL (st : St) : Option St :=
  match putA N st.fr (some d) (.tup [.bool false]) with
  | none => none
  | some fr1 => bnd ((opsB P glN N ops4 (ops4.toList.drop 1)).f cl fr1 st.h) fun s1 => match (codeB P glN L N c4).f cl s1.fr s1.h with
    | some (.exit 0, s2) => some s2
    | _ => none
def lastR (t2 : Nat) (o : Option St) : Bool :=
  match o with
  | none => false
  | some st => (match stL P cl L N d ops4 c4 st with
    | none => false
    | some s2 => (match (codeB P glN L N c5).f cl s2.fr s2.h with
      | some (.ret, s3) => (match s3.fr.get t2 with | some (.bool true) => true | _ => false)
      | _ => false))
variable {P cl L N it d tc ops4 ops5 rest c4 c5}
theorem someR_at {o : Option St} {lo hi : Nat} {st : St} {ib mb n : Nat} {es : List (AV × AV)} (h1 : o = some st) (h2 : itOf it st.fr = some ib) (h3 : st.h.objs.get ib = some (.mapit mb n none)) (h4 : st.h.objs.get mb = some (.map es)) (e : someR P cl L N it d tc ops4 ops5 rest o lo hi = true) :
    es.length = n ∧ ∀ j x, lo ≤ j → j < hi → es[j]? = some x → roundB P cl L N d tc ops4 ops5 rest st ib mb n j x = true := by
  unfold someR at e
  simp only [h1, h2, h3, h4, Bool.and_eq_true] at e
  refine ⟨Nat.eq_of_beq_eq_true e.1, fun j x hlo hhi hx => ?_⟩
  refine List.all_eq_true.1 e.2 (x, j) ?_
  refine List.mem_of_getElem? (i := j - lo) ?_
  rw [List.getElem?_take_of_lt (by omega), List.getElem?_drop, List.getElem?_zipIdx, show lo + (j - lo) = j by omega, hx]
  simp
theorem someR_it {o : Option St} {lo hi : Nat} (e : someR P cl L N it d tc ops4 ops5 rest o lo hi = true) : ∃ st ib mb n es, o = some st ∧ itOf it st.fr = some ib ∧ st.h.objs.get ib = some (.mapit mb n none) ∧ st.h.objs.get mb = some (.map es) := by
  unfold someR at e
  split at e
  · cases e
  rename_i st
  split at e
  · cases e
  rename_i ib h2
  split at e
  case h_2 => cases e
  rename_i mb n h3
  split at e
  case h_2 => cases e
  rename_i es h4
  exact ⟨st, ib, mb, n, es, rfl, h2, h3, h4⟩
theorem count_at {m : Nat} {o : Option St} {st : St} {ib mb n : Nat} (h1 : o = some st) (h2 : itOf it st.fr = some ib) (h3 : st.h.objs.get ib = some (.mapit mb n none)) (e : countR it m o = true) : n = m ∧ 0 < m := by
  unfold countR at e
  simp only [h1, h2, h3, Bool.and_eq_true] at e
  exact ⟨Nat.eq_of_beq_eq_true e.1, Nat.le_of_ble_eq_true e.2⟩
variable [Lane]
theorem round_ok {st : St} {ib mb n j : Nat} {e : AV × AV} (h : roundB P cl L N d tc ops4 ops5 rest st ib mb n j e = true) (hf : ∀ b, st.h.next ≤ b → st.h.objs.get b = none) (hi : st.h.objs.get ib = some (.mapit mb n none)) : ∃ fr1 os1 fr2 fr3 st2, putA N st.fr (some d) (.tup [.bool true, e.1, e.2]) = some fr1 ∧ st.h.objs.set ib (.mapit mb n (some j)) = some os1 ∧
    opsP P glN N { st.h with objs := os1 } (ops4.toList.drop 1) fr1 = some fr2 ∧ fr2.get tc = some (.bool true) ∧ opsP P glN N { st.h with objs := os1 } ops5.toList fr2 = some fr3 ∧
    codeA P glN cl L N rest ⟨fr3, st.h⟩ = some (.normal, st2) ∧ BackH ib st.h st2.h ∧ BackF N st.fr st2.fr := by
  unfold roundB at h
  split at h
  · cases h
  rename_i fr1 p1
  split at h
  · cases h
  rename_i os1 p2
  split at h
  · cases h
  rename_i fr2 p3
  split at h
  case h_2 => cases h
  rename_i p4
  split at h
  · cases h
  rename_i fr3 p5
  split at h
  case h_2 => cases h
  rename_i st2 p6
  rw [codeB_eq] at p6
  simp only [Bool.and_eq_true] at h
  exact ⟨fr1, os1, fr2, fr3, st2, p1, p2, p3, p4, p5, p6, backHB_ok hf ⟨mb, n, hi⟩ h.1, backFB_ok h.2⟩
theorem last_ok {t2 : Nat} {o : Option St} {st : St} (h1 : o = some st) (e : lastR P cl L N d ops4 c4 c5 t2 o = true) : ∃ fr1 st1 s2 s3, putA N st.fr (some d) (.tup [.bool false]) = some fr1 ∧ opsA P glN cl N ops4 (ops4.toList.drop 1) ⟨fr1, st.h⟩ = some st1 ∧ codeA P glN cl L N c4 st1 = some (.exit 0, s2) ∧
    codeA P glN cl L N c5 s2 = some (.ret, s3) ∧ s3.fr.get t2 = some (.bool true) := by
  unfold lastR at e
  simp only [h1] at e
  split at e
  · cases e
  rename_i s2 hs
  split at e
  case h_2 => cases e
  rename_i s3 hc
  split at e
  case h_2 => cases e
  rename_i h2
  unfold stL at hs
  split at hs
  · cases hs
  rename_i fr1 p1
  obtain ⟨s1, p2, hs⟩ := bnd_some hs
  split at hs
  case h_2 => cases hs
  rename_i s2' p3
  cases hs
  rw [opsB_eq] at p2
  rw [codeB_eq] at p3 hc
  exact ⟨fr1, s1, s2, s3, p1, p2, p3, hc, h2⟩
theorem itOf_ok {fr : Fr} {ib : Nat} (e : itOf it fr = some ib) : ∃ x, fr.get it = some (.ptr (some ⟨ib, 0, 0, x⟩)) := by
  unfold itOf at e
  split at e
  case h_2 => cases e
  rename_i b x h
  cases e
  exact ⟨x, h⟩
theorem spineC_ok (hc : CallOk P 0 glN cl) (hmix : P.follows .mixedOrders = true) {X Y : Code} {Q : Exit → Act → World → Prop} : ∀ (rs : List Code) {φ : Emb} {w : World} {st st' : St} {a : Act}, rs ≠ [] → HR 0 φ st.h w → GlobOk glN φ w → FR N φ w st.fr a → codesA P cl L N rs st = some st' →
    (∀ φ' w' a', Step 0 φ st.h w φ' st'.h w' → FR N φ' w' st'.fr a' → a'.defers = a.defers → X.wp P (Exit.then (Code.wp P Y Q) Q) a' w') → (spineC rs X Y).wp P Q a w
  | [], φ, w, st, st', a, hn, H, G, f, e, k => absurd rfl hn
  | [r], φ, w, st, st', a, hn, H, G, f, e, k => by
    unfold codesA at e
    split at e
    case h_2 => cases e
    rename_i s1 e1
    simp only [codesA, Option.some.injEq] at e
    subst e
    unfold spineC
    refine wp_seq (wp_seq (code_ok hc hmix L r H G f e1 ?_))
    intro φ' w' a' s f' d
    have := k φ' w' a' s f' d
    exact this
  | r :: r2 :: rs, φ, w, st, st', a, hn, H, G, f, e, k => by
    unfold codesA at e
    split at e
    case h_2 => cases e
    rename_i s1 e1
    unfold spineC
    refine wp_seq (code_ok hc hmix L r H G f e1 ?_)
    intro φ' w' a' s f' d
    exact spineC_ok hc hmix (r2 :: rs) (by simp) s.hr (G.step s) f' e fun φ2 w2 a2 s2 f2 d2 => k φ2 w2 a2 (s.trans H s2) f2 (d2.trans d)
theorem law_loop (hc : CallOk P 0 glN cl) (hmix : P.follows .mixedOrders = true) {f : FuncId} {fn : Func} {lb : Code} {rs : List Code} {dead : List Nat} {args : List AV} {us : Array Value} {r4 r5 b1 t2 m : Nat} {w : World}
    (hf : P.funcs[f]? = some fn) (hb : fn.body = some lb) (hN : fn.ntmps = N) (hres : fn.results.toList = [.tmp t2]) (hlb : lb = spineC rs (.block 0 (.loop (.seq (.region r4 ops4 false) c4))) c5) (hrs : rs ≠ [])
    (hc4 : c4 = .seq (.cond (.tmp tc) .skip (.exit 0)) (.block b1 (.seq (.region r5 ops5 false) rest))) (hh : headIs it d ops4.toList = true) (hdead : (dead.all fun t => Nat.blt t N) = true)
    (G0 : GlobOk glN noEmb w) (hargs : All2 (VR noEmb w) args us.toList) (hlen : args.length ≤ N)
    {o : Option St} (ho : stOf P cl L N rs dead args = o) {lh : List (Nat × Nat)} (hrounds : ∀ z ∈ lh, someR P cl L N it d tc ops4 ops5 rest o z.1 z.2 = true) (hcover : ∀ j, j < m → ∃ z ∈ lh, z.1 ≤ j ∧ j < z.2) (hcount : countR it m o = true) (hlast : lastR P cl L N d ops4 c4 c5 t2 o = true) :
    Calls P f us w fun e w' => e = .returned (.bool true) ∧ (w'.os = w.os ∧ w'.tape = w.tape ∧ w'.output = w.output ∧ w.heap.size ≤ w'.heap.size ∧ ∀ k, k < w.heap.size → w'.heap[k]? = w.heap[k]?) := by
  obtain ⟨z0, hz0, _⟩ := hcover 0 (by
    unfold countR at hcount
    split at hcount
    · cases hcount
    split at hcount
    · cases hcount
    split at hcount
    case h_2 => cases hcount
    simp only [Bool.and_eq_true] at hcount
    exact Nat.le_of_ble_eq_true hcount.2)
  obtain ⟨st, ib, mb, n, es, h1, h2, h3, h4⟩ := someR_it (hrounds z0 hz0)
  obtain ⟨hnm, hm0⟩ := count_at h1 h2 h3 hcount
  have hlenE : es.length = n := (someR_at h1 h2 h3 h4 (hrounds z0 hz0)).1
  have hround : ∀ j x, es[j]? = some x → roundB P cl L N d tc ops4 ops5 rest st ib mb n j x = true := by
    intro j x hx
    have hj : j < m := by
      rw [← hnm, ← hlenE]
      rcases Nat.lt_or_ge j es.length with q | q
      · exact q
      · rw [List.getElem?_eq_none q] at hx; cases hx
    obtain ⟨z, hz, q1, q2⟩ := hcover j hj
    exact (someR_at h1 h2 h3 h4 (hrounds z hz)).2 j x q1 q2 hx
  have hst := ho.trans h1
  unfold stOf at hst
  obtain ⟨fr0, e0, hst⟩ := bnd_some hst
  obtain ⟨s0, e1, hst⟩ := bnd_some hst
  obtain ⟨frA, e2, hst⟩ := bnd_some hst
  cases hst
  rw [argsF_eq] at e0
  rw [codesB_eq] at e1
  refine calls_of_wp hf hb ?_
  rw [hN, hlb]
  have H0 : HR 0 noEmb noHeap w := HR.empty w
  have F0 := FR.start (N := N) e0 hargs hlen
  refine spineC_ok hc hmix rs hrs (st := ⟨fr0, noHeap⟩) H0 G0 F0 e1 ?_
  intro φ4 w4 a4 s4 f4 d4
  have G4 := G0.step s4
  have FA : FR N φ4 w4 frA a4 := f4.any e2 (fun t ht => Nat.le_of_ble_eq_true (List.all_eq_true.1 hdead t ht))
  have hfree : ∀ b, s0.h.next ≤ b → s0.h.objs.get b = none := fun b hb => (s4.hr.fresh b hb).1
  obtain ⟨fr1, st1, z2, z3, p1, p2, p3, p4, p5⟩ := last_ok h1 hlast
  obtain ⟨o0, ho0, q1, q2, q3⟩ := headIs_ok hh
  have hes0 : ∃ x, es[0]? = some x := ⟨es[0]'(by omega), List.getElem?_eq_getElem _⟩
  obtain ⟨x0, hx0⟩ := hes0
  have K : LoopOk P glN cl L N ops4 (ops4.toList.drop 1) tc ops5 rest c4 ⟨frA, s0.h⟩ it d ib mb n es (.exit 0) z2 := by
    refine ⟨itOf_ok h2, h3, h4, hlenE, ?_, fun j e hj => round_ok (hround j e hj) hfree h3, ⟨fr1, st1, p1, p2, p3⟩, by simp⟩
    obtain ⟨_, os1, _, _, _, _, r2, _⟩ := round_ok (hround 0 x0 hx0) hfree h3
    exact set_other r2 _
  refine wp_block (loop_map hc hmix hc4 ho0 q1 q2 q3 K H0 s4.toWStep G4 FA ?_)
  intro φ5 w5 a5 s5 f5 d5
  refine code_ok hc hmix L c5 s5.hr (G0.wstep s5) f5 p4 ?_
  intro φ6 w6 a6 s6 f6 d6
  have T := s5.trans H0 s6.toWStep
  have hr : mapO (resA P z3.h z3.fr) fn.results.toList = some [.bool true] := by
    rw [hres]
    simp only [mapO, resA, p5, liveV, Option.bind_some]
  obtain ⟨u, m1, m2⟩ := results_ok s6.hr f6 hr
  have hu : u = .bool true := by
    have m2' : VR φ6 w6 (.bool true) u := m2
    cases m2'; rfl
  refine ⟨by rw [d6, d5, d4], u, m1, by rw [hu], T.below⟩
end
/-- the temporaries that a piece of code writes -/
def dsts : Code → List Nat
  | .region _ ops _ => ops.toList.filterMap (·.dst)
  | .seq a b => dsts a ++ dsts b
  | .cond _ a b => dsts a ++ dsts b
  | .block _ b => dsts b
  | .loop b => dsts b
  | _ => []
def cRs : Nat → Code → Code
  | 0, c => c
  | n + 1, c => cRs n (cR c)
/-- one function's answer at the law's own argument is told beforehand -/
def withinA (m : Nat) (v : AV) (args : List AV) (h : Heap) : Option (AV × Heap) :=
  match args with
  | [.arg 0, .int .i64 (.ofNat k)] => cond (Nat.beq k m) (some (v, h)) none
  | _ => none
def callW (fW m : Nat) (v : AV) (call : CallT) : CallT := fun f args h => cond (Nat.beq f fW) (withinA m v args h) (call f args h)
theorem callW_ok [Lane] {P : Program} {base : Nat} {fW m : Nat} {v : AV} {x : Value} {call : CallT}
    (hwin : ∀ w, (callFunc fW #[.int .i64 (Lane.arg 0), .int .i64 m]).run P w = .ok (.enter fW #[.int .i64 (Lane.arg 0), .int .i64 m]) w ∧ Calls P fW #[.int .i64 (Lane.arg 0), .int .i64 m] w (fun e w' => e = .returned x ∧ w' = w))
    (hv : ∀ φ w, VR φ w v x) (hcall : CallOk P base glN call) : CallOk P base glN (callW fW m v call) := by
  intro f args h r e φ w us H G hl
  unfold callW at e
  cases q : Nat.beq f fW with
  | false =>
    rw [q, cond_false] at e
    exact hcall f args h r e φ w us H G hl
  | true =>
    have q' := Nat.eq_of_beq_eq_true q
    subst q'
    rw [q, cond_true] at e
    unfold withinA at e
    split at e
    case h_2 => cases e
    rename_i k
    cases q2 : Nat.beq k m with
    | false => rw [q2] at e; cases e
    | true =>
    have q2' := Nat.eq_of_beq_eq_true q2
    subst q2'
    rw [q2, cond_true] at e
    cases e
    obtain ⟨l⟩ := us
    cases hl with
    | cons h1 ht =>
    cases ht with
    | cons h2 ht =>
    cases ht
    cases h1
    cases h2
    obtain ⟨c1, c2⟩ := hwin w
    refine .inl ⟨c1, c2.mono ?_⟩
    rintro _ w' ⟨rfl, rfl⟩
    exact ⟨_, φ, rfl, Step.refl H, hv φ w'⟩
def ints (l : List Nat) : AV := .vec (l.map fun n => .int .i64 (.ofNat n))
theorem ints_ok [Lane] {l : List Nat} {x : Nat} (hx : l[Lane.l]? = some x) (φ : Emb) (w : World) : VR φ w (ints l) (.int .i64 (.ofNat x)) := by
  refine .vec _ (.int .i64 (.ofNat x)) _ ?_ rfl (.int _ _)
  rw [List.getElem?_map, hx]; rfl
/-- a call of a function that has code begins it -/
theorem enters {P : Program} {f : FuncId} {fn : Func} (hp : Plain P) (hf : P.funcs[f]? = some fn) (hb : fn.body.isSome = true) (us : Array Value) (w : World) : (callFunc f us).run P w = .ok (.enter f us) w := by
  have hn := hp.names f fn hf
  cases hb' : fn.body with
  | none => rw [hb'] at hb; cases hb
  | some c =>
    have hn' : fn.name ≠ "runtime.NumGoroutine" := by simpa using hn
    simp [callFunc, Sem.run_bind, hf, hn', hb']
end Go.Vai
