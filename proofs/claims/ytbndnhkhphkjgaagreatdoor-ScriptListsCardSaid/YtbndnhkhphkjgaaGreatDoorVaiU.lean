/- The abstract machine: going on from a state that is told anew: less is told of it, the world is where it was. -/
import Derived.Test.YtbndnhkhphkjgaaGreatDoorVaiT
namespace Go.Vai
set_option linter.unusedVariables false
set_option linter.unusedSimpArgs false
set_option linter.unusedSectionVars false
def sameN (x y : Nat × AV) : Bool := Nat.beq x.1 y.1 && sameV x.2 y.2
def onOb (x y : Option AObj) : Bool :=
  match x with
  | none => true
  | some (.cells ro gen cs) => (match y with | some (.cells ro2 gen2 cs2) => (ro == ro2 && Nat.beq gen gen2) && Tr.sub sameN cs cs2 | _ => false)
  | some (.map es) => (match y with | some (.map es2) => sameE es es2 | _ => false)
  | _ => false
/-- all that the one memory tells stands in the other, alike -/
def onB (h2 h1 : Heap) : Bool := Nat.beq h1.next h2.next && (List.range h2.next).all fun b => onOb (h2.objs.get b) (h1.objs.get b)
structure On (h2 h1 : Heap) : Prop where
  next : h1.next = h2.next
  cells : ∀ b ro gen cs, h2.objs.get b = some (.cells ro gen cs) → ∃ cs1, h1.objs.get b = some (.cells ro gen cs1) ∧ ∀ i lo v, cs.get i = some (lo, v) → cs1.get i = some (lo, v)
  other : ∀ b x, h2.objs.get b = some x → isCells x = false → h1.objs.get b = some x
theorem onB_ok {h1 h2 : Heap} (hf : ∀ b, h2.next ≤ b → h2.objs.get b = none) (e : onB h2 h1 = true) : On h2 h1 := by
  letI : Lane := ⟨0, fun _ => 0, by decide, []⟩
  unfold onB at e
  simp only [Bool.and_eq_true, Nat.beq_eq] at e
  obtain ⟨e0, e⟩ := e
  have key : ∀ b x, h2.objs.get b = some x → onOb (some x) (h1.objs.get b) = true := by
    intro b x hx
    have hb : b < h2.next := by
      rcases Nat.lt_or_ge b h2.next with q | q
      · exact q
      · rw [hf b q] at hx; cases hx
    have := List.all_eq_true.1 e b (List.mem_range.2 hb)
    rwa [hx] at this
  refine ⟨e0, ?_, ?_⟩
  · intro b ro gen cs hx
    have q := key b _ hx
    unfold onOb at q
    simp only at q
    split at q
    case h_2 => cases q
    rename_i ro2 gen2 cs2 hy
    simp only [Bool.and_eq_true, beq_iff_eq, Nat.beq_eq] at q
    obtain ⟨⟨rfl, rfl⟩, q⟩ := q
    refine ⟨cs2, hy, fun i lo v hi => ?_⟩
    obtain ⟨y, k1, k2⟩ := Tr.sub_get q hi
    unfold sameN at k2
    simp only [Bool.and_eq_true, Nat.beq_eq] at k2
    obtain ⟨k2, k3⟩ := k2
    have k3 := sameV_eq k3
    rw [k1]
    obtain ⟨y1, y2⟩ := y
    simp only at k2 k3
    rw [k2, k3]
  · intro b x hx hnc
    have q := key b _ hx
    unfold onOb at q
    cases x with
    | cells => cases hnc
    | iter => cases q
    | viter => cases q
    | mapit => cases q
    | miter => cases q
    | map es =>
      simp only at q
      split at q
      case h_2 => cases q
      rename_i es2 hy
      obtain ⟨q1, q2⟩ := sameE_eq q
      subst q1
      exact hy
/-- a frame of which less is told, further on -/
def onF (N : Nat) (tgt s : Fr) : Bool := (List.range N).all fun t =>
  match tgt.get t with
  | none => (s.get t).isNone
  | some .any => true
  | some v => (match s.get t with | some v1 => sameV v v1 | none => false)
section
variable [Lane]
variable {P : Program} {base : Nat} {φ φ' φ'' φ0 : Emb} {h h' h'' h0 : Heap} {w w' w'' w0 : World}
theorem HR.on {h1 h2 : Heap} (hf : ∀ b, h2.next ≤ b → h2.objs.get b = none) (q : On h2 h1) (H : HR base φ h1 w) : HR base φ h2 w := by
  refine ⟨fun b hb => ⟨hf b hb, (H.fresh b (by rw [q.next]; exact hb)).2⟩, H.low, H.range, H.inj, ?_, ?_, ?_⟩
  · intro b ro gen cs e i lo v hi
    obtain ⟨cs1, k1, k2⟩ := q.cells b ro gen cs e
    exact H.los b ro gen cs1 k1 i lo v (k2 i lo v hi)
  · intro b ro gen cs g c e1 e2
    obtain ⟨cs1, k1, k2⟩ := q.cells b ro gen cs e1
    obtain ⟨p1, p2, p3, arr, t, fz, pa, pf, pk⟩ := H.cells b ro gen cs1 g c k1 e2
    exact ⟨p1, p2, fun i lo v hi => p3 i lo v (k2 i lo v hi), arr, t, fz, pa, pf, fun i lo v hi => pk i lo v (k2 i lo v hi)⟩
  · intro b x g c e1 hx e2
    exact H.other b x g c (q.other b x e1 hx) hx e2
theorem On.some {h1 h2 : Heap} (q : On h2 h1) {b : Nat} (e : wr (h2.objs.get b) = true) : wr (h1.objs.get b) = true := by
  cases hx : h2.objs.get b with
  | none => rw [hx] at e; cases e
  | some x =>
    cases x with
    | cells ro gen cs => obtain ⟨cs1, k1, _⟩ := q.cells b ro gen cs hx; rw [k1]; rw [hx] at e; cases ro <;> first | rfl | cases e
    | iter => rw [q.other b _ hx rfl]; rfl
    | viter => rw [q.other b _ hx rfl]; rfl
    | mapit => rw [q.other b _ hx rfl]; rfl
    | miter => rw [q.other b _ hx rfl]; rfl
    | map es => rw [q.other b _ hx rfl]; rfl
theorem WStep.on {h1 h2 : Heap} (hf : ∀ b, h2.next ≤ b → h2.objs.get b = none) (q : On h2 h1) (s : WStep base φ h w φ' h1 w') : WStep base φ h w φ' h2 w' :=
  ⟨s.hr.on hf q, s.ext, s.rows, s.kept, s.newer, by rw [← q.next]; exact s.next, fun b hb k => s.known b hb (q.some k)⟩
theorem FR.on {N : Nat} {s tgt : Fr} {a : Act} (f : FR N φ w s a) (ht : ∀ t, N ≤ t → tgt.get t = none) (e : onF N tgt s = true) : FR N φ w tgt a := by
  refine ⟨f.size, fun t htN => ?_, ht⟩
  have q := List.all_eq_true.1 e t (List.mem_range.2 htN)
  have g := f.get t htN
  cases hx : tgt.get t with
  | none =>
    rw [hx] at q
    simp only [Option.isNone_iff_eq_none] at q
    rw [q] at g
    exact g
  | some v =>
    rw [hx] at q
    by_cases ha : v = .any
    · subst ha; exact .inl rfl
    · have q' : (match s.get t with | some v1 => sameV v v1 | none => false) = true := by
        cases v <;> first | exact absurd rfl ha | exact q
      split at q'
      · rename_i v1 hv1
        have := sameV_eq q'
        subst this
        rw [hv1] at g
        exact g
      · cases q'
end
/-! states that are told -/
structure LS where
  told : List (Nat × AV)
  next : Nat
  rows : List (Nat × AObj)
def litT : List (Nat × AObj) → Tr AObj → Tr AObj
  | [], r => r
  | p :: l, r => match r.set p.1 p.2 with | some r' => litT l r' | none => litT l r
def litCr : List (Nat × Nat × AV) → Tr (Nat × AV) → Tr (Nat × AV)
  | [], r => r
  | p :: l, r => match r.set p.1 p.2 with | some r' => litCr l r' | none => litCr l r
def litC (l : List (Nat × Nat × AV)) : Tr (Nat × AV) := litCr l .nil
def litH (s : LS) : Heap := ⟨s.next, litT s.rows .nil⟩
def litF (N : Nat) (s : LS) : Option Fr := bnd (anyFr (List.range N) .nil) (setAll s.told)
def LS.fits (s : LS) (N : Nat) : Bool := (s.told.all fun p => Nat.blt p.1 N) && (s.rows.all fun p => Nat.blt p.1 s.next)
/-- pieces are done from a state; what is left is told anew -/
def goB (P : Program) (cl : CallT) (L N : Nat) (rs : List Code) (fr : Fr) (h : Heap) (s2 : LS) : Bool :=
  s2.fits N && (match codesB P cl L N rs fr h with
    | none => false
    | some s => (match litF N s2 with
      | none => false
      | some fr2 => onB (litH s2) s.h && onF N fr2 s.fr))
def goR (P : Program) (cl : CallT) (L N : Nat) (rs : List Code) (s s2 : LS) : Bool :=
  match litF N s with
  | none => false
  | some fr => goB P cl L N rs fr (litH s) s2
def goS (P : Program) (cl : CallT) (L N : Nat) (rs : List Code) (args : List AV) (s2 : LS) : Bool :=
  match argsF 0 args .nil with
  | none => false
  | some fr => goB P cl L N rs fr noHeap s2
def goE (P : Program) (cl : CallT) (L N : Nat) (re : List Code) (t2 : Nat) (s : LS) : Bool :=
  match litF N s with
  | none => false
  | some fr => (match codesB P cl L N re fr (litH s) with
    | none => false
    | some s2 => (match s2.fr.get t2 with | some (.bool b) => b | _ => false))
section
variable [Lane]
variable {P : Program} {base : Nat} {φ φ' φ'' φ0 : Emb} {h h' h'' h0 : Heap} {w w' w'' w0 : World}
theorem litT_get : ∀ {l : List (Nat × AObj)} {r : Tr AObj} {b : Nat} {x : AObj}, (litT l r).get b = some x → r.get b = some x ∨ ∃ p ∈ l, p.1 = b
  | [], r, b, x, e => .inl e
  | p :: l, r, b, x, e => by
    unfold litT at e
    split at e
    · rename_i r' hr
      rcases litT_get e with q | ⟨p', q1, q2⟩
      · rw [Tr.get_set hr] at q
        by_cases k : b = p.1
        · exact .inr ⟨p, by simp, k.symm⟩
        · rw [if_neg k] at q; exact .inl q
      · exact .inr ⟨p', by simp [q1], q2⟩
    · rcases litT_get e with q | ⟨p', q1, q2⟩
      · exact .inl q
      · exact .inr ⟨p', by simp [q1], q2⟩
theorem litH_fresh {s : LS} {N : Nat} (e : s.fits N = true) : ∀ b, (litH s).next ≤ b → (litH s).objs.get b = none := by
  intro b hb
  unfold LS.fits at e
  simp only [Bool.and_eq_true] at e
  cases hx : (litH s).objs.get b with
  | none => rfl
  | some x =>
    rcases litT_get hx with q | ⟨p, q1, q2⟩
    · rw [Tr.get_nil] at q; cases q
    · have := Nat.le_of_ble_eq_true (List.all_eq_true.1 e.2 p q1)
      have hb' : s.next ≤ b := hb
      omega
theorem anyFr_out {l : List Nat} {fr fr' : Fr} {N : Nat} (e : anyFr l fr = some fr') (hl : ∀ t ∈ l, t < N) (h : ∀ t, N ≤ t → fr.get t = none) : ∀ t, N ≤ t → fr'.get t = none := by
  intro t ht
  rcases anyFr_get e t with ⟨_, q⟩ | q
  · have := hl t q; omega
  · rw [q]; exact h t ht
theorem litF_out {s : LS} {N : Nat} {fr : Fr} (e : litF N s = some fr) (hf : s.fits N = true) : ∀ t, N ≤ t → fr.get t = none := by
  unfold litF at e
  obtain ⟨f1, e1, e2⟩ := bnd_some e
  unfold LS.fits at hf
  simp only [Bool.and_eq_true] at hf
  exact setAll_out e2 hf.1 (anyFr_out e1 (fun t ht => List.mem_range.1 ht) (fun t _ => Tr.get_nil t))
theorem go_ok {cl : CallT} {L N : Nat} (hc : CallOk P 0 glN cl) (hmix : P.follows .mixedOrders = true) {Q : Exit → Act → World → Prop} {rs : List Code} {X : Code} {fr : Fr} {s2 : LS} (e : goB P cl L N rs fr h s2 = true)
    (H0 : HR 0 φ0 h0 w0) (G0 : GlobOk glN φ0 w0) (S : WStep 0 φ0 h0 w0 φ h w) {a : Act} (F : FR N φ w fr a)
    (k : ∀ φ' w' a' fr2, litF N s2 = some fr2 → WStep 0 φ0 h0 w0 φ' (litH s2) w' → FR N φ' w' fr2 a' → a'.defers = a.defers → X.wp P Q a' w') : (chainC rs X).wp P Q a w := by
  unfold goB at e
  simp only [Bool.and_eq_true] at e
  obtain ⟨hfit, e⟩ := e
  split at e
  · cases e
  rename_i s hs
  split at e
  · cases e
  rename_i fr2 hfr2
  simp only [Bool.and_eq_true] at e
  rw [codesB_eq] at hs
  refine chainC_ok hc hmix rs (st := ⟨fr, h⟩) S.hr (G0.wstep S) F hs ?_
  intro φ' w' a' s' f' d
  have hf := litH_fresh hfit
  exact k φ' w' a' fr2 hfr2 ((S.trans H0 s'.toWStep).on hf (onB_ok hf e.1)) (f'.on (litF_out hfr2 hfit) e.2) d
def GoOk (P : Program) (cl : CallT) (L N : Nat) : LS → List (List Code × LS) → Prop
  | _, [] => True
  | s, (rs, s2) :: l => goR P cl L N rs s s2 = true ∧ GoOk P cl L N s2 l
def lastS : LS → List (List Code × LS) → LS
  | s, [] => s
  | _, (_, s2) :: l => lastS s2 l
def chainL : List (List Code × LS) → Code → Code
  | [], X => X
  | (rs, _) :: l, X => chainC rs (chainL l X)
theorem gos_ok {cl : CallT} {L N : Nat} (hc : CallOk P 0 glN cl) (hmix : P.follows .mixedOrders = true) {Q : Exit → Act → World → Prop} {X : Code} (H0 : HR 0 φ0 h0 w0) (G0 : GlobOk glN φ0 w0) : ∀ (l : List (List Code × LS)) {s : LS} {φ : Emb} {w : World} {a : Act} {fr : Fr}, GoOk P cl L N s l →
    litF N s = some fr → WStep 0 φ0 h0 w0 φ (litH s) w → FR N φ w fr a →
    (∀ φ' w' a' fr2, litF N (lastS s l) = some fr2 → WStep 0 φ0 h0 w0 φ' (litH (lastS s l)) w' → FR N φ' w' fr2 a' → a'.defers = a.defers → X.wp P Q a' w') → (chainL l X).wp P Q a w
  | [], s, φ, w, a, fr, _, hfr, S, F, k => k φ w a fr hfr S F rfl
  | (rs, s2) :: l, s, φ, w, a, fr, e, hfr, S, F, k => by
    obtain ⟨e1, e2⟩ := e
    unfold goR at e1
    rw [hfr] at e1
    simp only at e1
    exact go_ok hc hmix e1 H0 G0 S F fun φ' w' a' fr2 q1 q2 q3 q4 => gos_ok hc hmix H0 G0 l e2 q1 q2 q3 fun φ2 w2 a2 f2 m1 m2 m3 m4 => k φ2 w2 a2 f2 m1 m2 m3 (m4.trans q4)
/-- a law that is pieces, each from a state that is told to one that is told -/
theorem law_go {cl : CallT} {L N : Nat} (hc : CallOk P 0 glN cl) (hmix : P.follows .mixedOrders = true) {f : FuncId} {fn : Func} {lb : Code} {rs re : List Code} {args : List AV} {us : Array Value} {t2 : Nat} {w : World}
    (hf : P.funcs[f]? = some fn) (hb : fn.body = some lb) (hN : fn.ntmps = N) (hres : fn.results.toList = [.tmp t2]) {s1 : LS} {l : List (List Code × LS)} (hlb : lb = chainC rs (chainL l (chainC re .ret)))
    (G0 : GlobOk glN noEmb w) (hargs : All2 (VR noEmb w) args us.toList) (hlen : args.length ≤ N) (h1 : goS P cl L N rs args s1 = true) (hs : GoOk P cl L N s1 l) (hend : goE P cl L N re t2 (lastS s1 l) = true) :
    Calls P f us w fun e w' => e = .returned (.bool true) ∧ (w'.os = w.os ∧ w'.tape = w.tape ∧ w'.output = w.output ∧ w.heap.size ≤ w'.heap.size ∧ ∀ k, k < w.heap.size → w'.heap[k]? = w.heap[k]?) := by
  unfold goS at h1
  split at h1
  · cases h1
  rename_i fr0 e0
  rw [argsF_eq] at e0
  refine calls_of_wp hf hb ?_
  rw [hN, hlb]
  have H0 : HR 0 noEmb noHeap w := HR.empty w
  have F0 := FR.start (N := N) e0 hargs hlen
  refine go_ok hc hmix h1 H0 G0 (Step.refl H0).toWStep F0 ?_
  intro φ1 w1 a1 fr1 hfr1 S1 F1 d1
  refine gos_ok hc hmix H0 G0 l hs hfr1 S1 F1 ?_
  intro φ2 w2 a2 fr2 hfr2 S2 F2 d2
  unfold goE at hend
  rw [hfr2] at hend
  simp only at hend
  split at hend
  · cases hend
  rename_i s3 hs3
  split at hend
  case h_2 => cases hend
  rename_i bb hg
  subst hend
  rw [codesB_eq] at hs3
  refine chainC_ok hc hmix re (st := ⟨fr2, litH (lastS s1 l)⟩) S2.hr (G0.wstep S2) F2 hs3 ?_
  intro φ3 w3 a3 s5 f3 d3
  refine wp_ret ?_
  have hr : mapO (resA P s3.h s3.fr) fn.results.toList = some [.bool true] := by
    rw [hres]
    simp only [mapO, resA, hg, liveV, Option.bind_some]
  obtain ⟨u, m1, m2⟩ := results_ok s5.hr f3 hr
  have hu : u = .bool true := by
    have m2' : VR φ3 w3 (.bool true) u := m2
    cases m2'; rfl
  exact ⟨by rw [d3, d2, d1], u, m1, by rw [hu], (S2.trans H0 s5.toWStep).below⟩
end
end Go.Vai
