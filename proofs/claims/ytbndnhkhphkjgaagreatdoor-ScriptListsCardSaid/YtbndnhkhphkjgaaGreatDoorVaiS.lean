/- The abstract machine: a law cut into pieces: what is not needed any more is forgotten, and each piece comes back to the same memory. -/
import Derived.Test.YtbndnhkhphkjgaaGreatDoorVaiL
namespace Go.Vai
set_option linter.unusedVariables false
set_option linter.unusedSimpArgs false
set_option linter.unusedSectionVars false
/-! what is kept -/
def gcT (t : Tr AObj) : List Nat → Tr AObj → Tr AObj
  | [], r => r
  | b :: l, r => match t.get b with
    | some o => (match r.set b o with | some r' => gcT t l r' | none => gcT t l r)
    | none => gcT t l r
def gcH (keep : List Nat) (h : Heap) : Heap := ⟨h.next, gcT h.objs keep .nil⟩
theorem gcT_get [Lane] {t : Tr AObj} : ∀ {l : List Nat} {r : Tr AObj} {b : Nat} {x : AObj}, (gcT t l r).get b = some x → r.get b = some x ∨ t.get b = some x
  | [], r, b, x, e => .inl e
  | c :: l, r, b, x, e => by
    unfold gcT at e
    split at e
    · rename_i o ho
      split at e
      · rename_i r' hr
        rcases gcT_get e with q | q
        · rw [Tr.get_set hr] at q
          by_cases k : b = c
          · rw [if_pos k] at q; cases q; rw [k]; exact .inr ho
          · rw [if_neg k] at q; exact .inl q
        · exact .inr q
      · exact gcT_get e
    · exact gcT_get e
theorem gcH_get [Lane] {keep : List Nat} {h : Heap} {b : Nat} {x : AObj} (e : (gcH keep h).objs.get b = some x) : h.objs.get b = some x := by
  rcases gcT_get e with q | q
  · rw [Tr.get_nil] at q; cases q
  · exact q
/-- the blocks that a value, an object leads to -/
def blk1 : AV → List Nat
  | .ptr (some a) => [a.b]
  | .slice (some a) _ _ _ => [a.b]
  | .map (some b) => [b]
  | _ => []
def blkV : AV → List Nat
  | .agg l => l.flatMap blk1
  | .tup l => l.flatMap blk1
  | .func _ l => l.flatMap blk1
  | x => blk1 x
def Tr.vals {α : Type} : Tr α → List α
  | .nil => []
  | .node v ⟨c0, c1, c2, c3, c4, c5, c6, c7, c8, c9, c10, c11, c12, c13, c14, c15⟩ => v.toList ++ (vals c0 ++ (vals c1 ++ (vals c2 ++ (vals c3 ++ (vals c4 ++ (vals c5 ++ (vals c6 ++ (vals c7 ++ (vals c8 ++ (vals c9 ++ (vals c10 ++ (vals c11 ++ (vals c12 ++ (vals c13 ++ (vals c14 ++ vals c15)))))))))))))))
def blkO : AObj → List Nat
  | .cells _ _ cs => cs.vals.flatMap fun c => blkV c.2
  | .map es => es.flatMap fun e => blkV e.1 ++ blkV e.2
  | .mapit m _ _ => [m]
  | _ => []
/-- what is reached from some blocks -/
def reach (h : Heap) : Nat → List Nat → List Nat → List Nat
  | 0, _, seen => seen
  | _, [], seen => seen
  | n + 1, b :: l, seen => bif seen.contains b then reach h n l seen else (match h.objs.get b with
    | some o => reach h n (blkO o ++ l) (b :: seen)
    | none => reach h n l (b :: seen))
def gcF (fr : Fr) (h : Heap) : Heap := gcH (reach h 1000000 (fr.vals.flatMap blkV) []) h
/-! coming back -/
def back0Ob (x y : Option AObj) : Bool :=
  match x with
  | none => true
  | some (.cells ro gen cs) => (match y with | some (.cells ro2 gen2 cs2) => (ro == ro2 && Nat.beq gen gen2) && Tr.sub sameC cs cs2 | _ => false)
  | some (.map es) => (match y with | some (.map es2) => sameE es es2 | _ => false)
  | _ => false
def back0B (h h2 : Heap) : Bool := (List.range h.next).all fun b => back0Ob (h.objs.get b) (h2.objs.get b)
/-- a frame of which less is told -/
def leF (N : Nat) (fr s tgt : Fr) : Bool := (List.range N).all fun t =>
  match tgt.get t with
  | none => (s.get t).isNone
  | some .any => true
  | some v => (match s.get t with
    | some v1 => same1 v v1 && (scalar2 v || (plain1 v && (match fr.get t with | some v0 => same1 v0 v | none => false)))
    | none => false)
structure Back0 (h h2 : Heap) : Prop where
  cells : ∀ b ro gen cs, h.objs.get b = some (.cells ro gen cs) → ∃ cs2, h2.objs.get b = some (.cells ro gen cs2) ∧ ∀ i lo v, cs.get i = some (lo, v) → cs2.get i = some (lo, v) ∧ plain1 v = true
  other : ∀ b x, h.objs.get b = some x → isCells x = false → h2.objs.get b = some x ∧ (∃ es, x = .map es ∧ ∀ e ∈ es, plain1 e.1 = true ∧ plain1 e.2 = true)
theorem back0B_ok {h h2 : Heap} (hf : ∀ b, h.next ≤ b → h.objs.get b = none) (e : back0B h h2 = true) : Back0 h h2 := by
  letI : Lane := ⟨0, fun _ => 0, by decide, []⟩
  have key : ∀ b x, h.objs.get b = some x → back0Ob (some x) (h2.objs.get b) = true := by
    intro b x hx
    have hb : b < h.next := by
      rcases Nat.lt_or_ge b h.next with q | q
      · exact q
      · rw [hf b q] at hx; cases hx
    have := List.all_eq_true.1 e b (List.mem_range.2 hb)
    rwa [hx] at this
  refine ⟨?_, ?_⟩
  · intro b ro gen cs hx
    have q := key b _ hx
    unfold back0Ob at q
    simp only at q
    split at q
    case h_2 => cases q
    rename_i ro2 gen2 cs2 hy
    simp only [Bool.and_eq_true, beq_iff_eq, Nat.beq_eq] at q
    obtain ⟨⟨rfl, rfl⟩, q⟩ := q
    refine ⟨cs2, hy, fun i lo v hi => ?_⟩
    obtain ⟨y, k1, k2⟩ := Tr.sub_get q hi
    unfold sameC at k2
    simp only [Bool.and_eq_true, Nat.beq_eq] at k2
    obtain ⟨k2, k3, k4⟩ := k2
    have k3 := same1_eq k3
    refine ⟨?_, k4⟩
    rw [k1]
    obtain ⟨y1, y2⟩ := y
    simp only at k2 k3
    rw [k2, k3]
  · intro b x hx hnc
    have q := key b _ hx
    unfold back0Ob at q
    cases x with
    | cells => cases hnc
    | iter => cases q
    | viter => cases q
    | mapit => cases q
    | miter => cases q
    | map es =>
      simp only at q
      split at q
      case h_2 => cases q
      rename_i es2 hy
      obtain ⟨q1, q2⟩ := sameE_eq q
      subst q1
      exact ⟨hy, es, rfl, q2⟩
variable [Lane]
variable {P : Program} {base : Nat} {φ φ' φ'' φ0 : Emb} {h h' h'' h0 : Heap} {w w' w'' w0 : World}
theorem HR.less {h1 h2 : Heap} (hn : h1.next = h2.next) (hg : ∀ b x, h2.objs.get b = some x → h1.objs.get b = some x) (H : HR base φ h1 w) : HR base φ h2 w := by
  refine ⟨fun b hb => ⟨?_, (H.fresh b (by rw [hn]; exact hb)).2⟩, H.low, H.range, H.inj, fun b ro gen cs e => H.los b ro gen cs (hg _ _ e), fun b ro gen cs g c e => H.cells b ro gen cs g c (hg _ _ e), fun b x g c e => H.other b x g c (hg _ _ e)⟩
  cases q : h2.objs.get b with
  | none => rfl
  | some x => have := hg _ _ q; rw [(H.fresh b (by rw [hn]; exact hb)).1] at this; cases this
theorem WStep.less {h1 h2 : Heap} (hn : h1.next = h2.next) (hg : ∀ b x, h2.objs.get b = some x → h1.objs.get b = some x) (s : WStep base φ h w φ' h1 w') : WStep base φ h w φ' h2 w' :=
  ⟨s.hr.less hn hg, s.ext, s.rows, s.kept, s.newer, by rw [← hn]; exact s.next, fun b hb q => by
    cases q2 : h2.objs.get b with
    | none => rw [q2] at q; cases q
    | some x => exact s.known b hb (by rw [hg _ _ q2, ← q2]; exact q)⟩
theorem WStep.gc {keep : List Nat} {h1 : Heap} (s : WStep base φ h w φ' h1 w') : WStep base φ h w φ' (gcH keep h1) w' := WStep.less (h1 := h1) (h2 := gcH keep h1) rfl (fun _ _ e => gcH_get e) s
theorem HR.ret (H : HR base φ h w) {h2 : Heap} (H2 : HR base φ' h2 w') (ext : Ext φ φ') (hb : Back0 h h2) : HR base φ h w' := by
  refine ⟨H.fresh, H2.low, fun b g c e => H2.range b g c (ext _ _ _ e), H.inj, H.los, ?_, ?_⟩
  · intro b ro gen cs g c e1 e2
    obtain ⟨p1, p2, p3, arr0, t0, fz0, pa0, pf0, pk0⟩ := H.cells b ro gen cs g c e1 e2
    obtain ⟨cs2, q1, q2⟩ := hb.cells b ro gen cs e1
    obtain ⟨r1, r2, r3, arr, t, fz, ra, rf, rk⟩ := H2.cells b ro gen cs2 g c q1 (ext _ _ _ e2)
    refine ⟨p1, p2, p3, arr, t, fz, ra, rf, ?_⟩
    intro i lo v hi hle hao hie
    obtain ⟨k1, k2⟩ := q2 i lo v hi
    obtain ⟨u0, _, v0, _⟩ := pk0 i lo v hi hle hao hie
    obtain ⟨u, m1, m2, m3⟩ := rk i lo v k1 hle hao hie
    exact ⟨u, m1, VR.back k2 v0 m2 ext, m3⟩
  · intro b x g c e1 hx e2
    obtain ⟨p1, p0, o0, po, pr⟩ := H.other b x g c e1 hx e2
    obtain ⟨k1, es, rfl, hes⟩ := hb.other b x e1 hx
    obtain ⟨q1, q0, o, qo, qr⟩ := H2.other b _ g c k1 hx (ext _ _ _ e2)
    refine ⟨p1, p0, o, qo, ?_⟩
    cases pr with
    | map _ ms0 k0 kb0 =>
    cases qr with
    | map _ ms1 k1' kb1 => exact .map es ms1 (ents_back hes ext k0 k1') kb1
/-- a piece was done from a state; what came back: the world moves on, the state's memory is told as it was -/
theorem WStep.ret (H0 : HR base φ0 h0 w0) (S : WStep base φ0 h0 w0 φ h w) {h2 : Heap} (s : WStep base φ h w φ' h2 w') (hb : Back0 h h2) : WStep base φ0 h0 w0 φ h w' := by
  have T := S.trans H0 s
  exact ⟨S.hr.ret s.hr s.ext hb, S.ext, T.rows, T.kept, S.newer, S.next, S.known⟩
theorem scalar2_VR {x : AV} {v : Value} (hs : scalar2 x = true) (k : VR φ w x v) : VR φ' w' x v := by
  have one : ∀ {y : AV} {u : Value}, scalar1 y = true → VR φ w y u → VR φ' w' y u := by
    intro y u hy q
    cases q <;> first | (simp [scalar1] at hy; done) | constructor
  cases k with
  | vec l y _ hl h2 k => exact .vec l y v hl h2 (one (List.all_eq_true.1 hs _ (List.mem_of_getElem? hl)) k)
  | bool b => exact .bool b
  | int k n => exact .int k n
  | str l => exact .str l
  | _ => simp [scalar2, scalar1] at hs
theorem FR.ret {N : Nat} {fr s tgt : Fr} {a a' : Act} (f : FR N φ w fr a) (f2 : FR N φ' w' s a') (hx : Ext φ φ') (ht : ∀ t, N ≤ t → tgt.get t = none) (e : leF N fr s tgt = true)
    (hold : ∀ t v, fr.get t = some v → plain1 v = true → s.get t = some v → ∃ u, VR φ w v u) : FR N φ w' tgt a' := by
  refine ⟨f2.size, fun t htN => ?_, ht⟩
  have q := List.all_eq_true.1 e t (List.mem_range.2 htN)
  have g2 := f2.get t htN
  split at q
  · rename_i h1
    right
    rw [h1]
    cases hs : s.get t with
    | none =>
      rw [hs] at g2
      have g2 := g2.resolve_left (by simp)
      simp only [Option.getD_none] at g2 ⊢
      generalize a'.tmps.getD t undef = u at g2
      cases g2; exact .u
    | some x => rw [hs] at q; cases q
  · rename_i h1; left; rw [h1]; rfl
  · rename_i v hne h1
    split at q
    case h_2 => cases q
    rename_i v1 hs
    simp only [Bool.and_eq_true, Bool.or_eq_true] at q
    obtain ⟨q1, q2⟩ := q
    have e1 := same1_eq q1
    subst e1
    rw [hs] at g2
    have hva : v ≠ .any := fun q => hne (by rw [← q])
    have g2 := g2.resolve_left (by simpa using hva)
    simp only [Option.getD_some] at g2
    right
    rw [h1]
    simp only [Option.getD_some]
    rcases q2 with q2 | ⟨q2, q3⟩
    · exact scalar2_VR q2 g2
    · split at q3
      case h_2 => cases q3
      rename_i v0 h0
      have e0 := same1_eq q3
      subst e0
      obtain ⟨u, hu⟩ := hold t _ h0 q2 hs
      exact VR.back q2 hu g2 hx
section
variable {cl : CallT} {L N : Nat} {Q : Exit → Act → World → Prop}
/-- a piece of a region: it comes back, and leaves in the frame what is told -/
def segB (P : Program) (cl : CallT) (N : Nat) (ops : Array Oper) (seg : List Oper) (h : Heap) (fr tgt : Fr) : Bool :=
  match (opsB P glN N ops seg).f cl fr h with
  | some s => back0B h s.h && leF N fr s.fr tgt
  | none => false
theorem seg_ok (hc : CallOk P base glN cl) {ops : Array Oper} {l l2 : List Nat} {os : List Oper} (hi : All2 (fun i o => ops[i]? = some o) l os) {fr tgt : Fr} (e : segB P cl N ops os h fr tgt = true) (ht : ∀ t, N ≤ t → tgt.get t = none)
    (H0 : HR base φ0 h0 w0) (G0 : GlobOk glN φ0 w0) (S : WStep base φ0 h0 w0 φ h w) {a : Act} (F : FR N φ w fr a) (k : ∀ w' a', WStep base φ0 h0 w0 φ h w' → FR N φ w' tgt a' → a'.defers = a.defers → wpOps P ops Q l2 a' w') : wpOps P ops Q (l ++ l2) a w := by
  unfold segB at e
  split at e
  case h_2 => cases e
  rename_i s hs
  simp only [Bool.and_eq_true] at e
  rw [opsB_eq] at hs
  refine ops_go hc hi (st := ⟨fr, h⟩) S.hr (G0.wstep S) F hs ?_
  intro φ' w' a' s' f' d
  have hb := back0B_ok (fun b hb => (S.hr.fresh b hb).1) e.1
  refine k w' a' (S.ret H0 s'.toWStep hb) (F.ret f' s'.ext ht e.2 ?_) d
  intro t v h1 h2 h3
  have htN : t < N := by
    rcases Nat.lt_or_ge t N with q | q
    · exact q
    · rw [F.out t q] at h1; cases h1
  have g := F.get t htN
  rw [h1] at g
  rcases g with g | g
  · have g : v = .any := g
    subst g
    simp [plain1, plain0] at h2
  · exact ⟨_, g⟩
theorem seg_at (hc : CallOk P base glN cl) {ops : Array Oper} {off n : Nat} {fr tgt : Fr} (e : segB P cl N ops ((ops.toList.drop off).take n) h fr tgt = true) (ht : ∀ t, N ≤ t → tgt.get t = none)
    (H0 : HR base φ0 h0 w0) (G0 : GlobOk glN φ0 w0) (S : WStep base φ0 h0 w0 φ h w) {a : Act} (F : FR N φ w fr a) (k : ∀ w' a', WStep base φ0 h0 w0 φ h w' → FR N φ w' tgt a' → a'.defers = a.defers → wpOps P ops Q ((List.range ops.size).drop (off + n)) a' w') : wpOps P ops Q ((List.range ops.size).drop off) a w := by
  have hi := ((range_all ops).drop off).take n
  have e2 : (List.range ops.size).drop off = ((List.range ops.size).drop off).take n ++ (List.range ops.size).drop (off + n) := by
    rw [← List.drop_drop, List.take_append_drop]
  rw [e2]
  exact seg_ok hc hi e ht H0 G0 S F k
/-- pieces one behind the other -/
def chainC : List Code → Code → Code
  | [], X => X
  | r :: rs, X => .seq r (chainC rs X)
theorem chainC_ok (hc : CallOk P 0 glN cl) (hmix : P.follows .mixedOrders = true) {X : Code} {Q : Exit → Act → World → Prop} : ∀ (rs : List Code) {φ : Emb} {w : World} {st st' : St} {a : Act}, HR 0 φ st.h w → GlobOk glN φ w → FR N φ w st.fr a → codesA P cl L N rs st = some st' →
    (∀ φ' w' a', Step 0 φ st.h w φ' st'.h w' → FR N φ' w' st'.fr a' → a'.defers = a.defers → X.wp P Q a' w') → (chainC rs X).wp P Q a w
  | [], φ, w, st, st', a, H, G, f, e, k => by
    simp only [codesA, Option.some.injEq] at e
    subst e
    exact k φ w a (Step.refl H) f rfl
  | r :: rs, φ, w, st, st', a, H, G, f, e, k => by
    unfold codesA at e
    split at e
    case h_2 => cases e
    rename_i s1 e1
    refine wp_seq (code_ok hc hmix L r H G f e1 ?_)
    intro φ' w' a' s f' d
    exact chainC_ok hc hmix rs s.hr (G.step s) f' e fun φ2 w2 a2 s2 f2 d2 => k φ2 w2 a2 (s.trans H s2) f2 (d2.trans d)
end
def setAll : List (Nat × AV) → Fr → Option Fr
  | [], fr => some fr
  | p :: l, fr => (fr.set p.1 p.2).bind (setAll l)
/-- a frame of which just this is told -/
def tellF (N : Nat) (fr : Fr) (keep : List Nat) (told : List (Nat × AV)) : Option Fr :=
  bnd (anyFr ((List.range N).filter fun t => !keep.contains t) fr) (setAll told)
/-- the state behind some pieces: what is not needed is forgotten -/
def stG (P : Program) (cl : CallT) (L N : Nat) (rs : List Code) (keep : List Nat) (args : List AV) : Option St :=
  bnd (argsF 0 args .nil) fun fr => bnd (codesB P cl L N rs fr noHeap) fun s => bnd (anyFr ((List.range N).filter fun t => !keep.contains t) s.fr) fun fr => some ⟨fr, gcF fr s.h⟩
/-- one piece of a region, from that state -/
def segR (P : Program) (cl : CallT) (N : Nat) (ops : Array Oper) (o : Option St) (off n : Nat) (told told2 : List (Nat × AV)) : Bool :=
  match o with
  | none => false
  | some st => (match setAll told st.fr with
    | none => false
    | some fr => (match setAll told2 st.fr with
      | none => false
      | some tgt => segB P cl N ops ((ops.toList.drop off).take n) st.h fr tgt))
theorem setAll_out [Lane] {N : Nat} : ∀ {l : List (Nat × AV)} {fr fr' : Fr}, setAll l fr = some fr' → (l.all fun p => Nat.blt p.1 N) = true → (∀ t, N ≤ t → fr.get t = none) → ∀ t, N ≤ t → fr'.get t = none
  | [], fr, fr', e, _, h => by cases e; exact h
  | p :: l, fr, fr', e, hl, h => by
    simp only [setAll, Option.bind_eq_some_iff] at e
    obtain ⟨f1, e1, e2⟩ := e
    simp only [List.all_cons, Bool.and_eq_true] at hl
    refine setAll_out e2 hl.2 fun t ht => ?_
    have := Nat.le_of_ble_eq_true hl.1
    rw [Tr.get_set e1, if_neg (by omega)]
    exact h t ht
theorem segR_at [Lane] {P : Program} {cl : CallT} {N : Nat} {Q : Exit → Act → World → Prop} {base : Nat} {φ φ0 : Emb} {h0 : Heap} {w w0 : World} (hc : CallOk P base glN cl) {ops : Array Oper} {o : Option St} {st : St} (ho : o = some st) {off n : Nat} {told told2 : List (Nat × AV)} (e : segR P cl N ops o off n told told2 = true)
    (h2 : (told2.all fun p => Nat.blt p.1 N) = true) (hout : ∀ t, N ≤ t → st.fr.get t = none) (H0 : HR base φ0 h0 w0) (G0 : GlobOk glN φ0 w0) (S : WStep base φ0 h0 w0 φ st.h w) {a : Act} {fr : Fr} (hfr : setAll told st.fr = some fr) (F : FR N φ w fr a)
    (k : ∀ w' a' tgt, setAll told2 st.fr = some tgt → WStep base φ0 h0 w0 φ st.h w' → FR N φ w' tgt a' → a'.defers = a.defers → wpOps P ops Q ((List.range ops.size).drop (off + n)) a' w') : wpOps P ops Q ((List.range ops.size).drop off) a w := by
  unfold segR at e
  simp only [ho, hfr] at e
  split at e
  · cases e
  rename_i tgt htgt
  exact seg_at hc e (setAll_out htgt h2 hout) H0 G0 S F fun w' a' S' F' d => k w' a' tgt htgt S' F' d
def SegsOk (P : Program) (cl : CallT) (N : Nat) (ops : Array Oper) (o : Option St) : Nat → List (Nat × AV) → List (Nat × List (Nat × AV)) → Prop
  | off, _, [] => off = ops.size
  | off, told, (n, told2) :: l => segR P cl N ops o off n told told2 = true ∧ (told2.all fun p => Nat.blt p.1 N) = true ∧ SegsOk P cl N ops o (off + n) told2 l
def lastTold : List (Nat × AV) → List (Nat × List (Nat × AV)) → List (Nat × AV)
  | told, [] => told
  | _, (_, told2) :: l => lastTold told2 l
theorem segs_ok [Lane] {P : Program} {cl : CallT} {N : Nat} {Q : Exit → Act → World → Prop} {base : Nat} {φ φ0 : Emb} {h0 : Heap} {w0 : World} (hc : CallOk P base glN cl) {ops : Array Oper} {o : Option St} {st : St} (ho : o = some st) (hout : ∀ t, N ≤ t → st.fr.get t = none) (H0 : HR base φ0 h0 w0) (G0 : GlobOk glN φ0 w0) :
    ∀ (l : List (Nat × List (Nat × AV))) (off : Nat) (told : List (Nat × AV)) {w : World} {a : Act} {fr : Fr}, SegsOk P cl N ops o off told l → WStep base φ0 h0 w0 φ st.h w → setAll told st.fr = some fr → FR N φ w fr a →
    (∀ w' a' tgt, setAll (lastTold told l) st.fr = some tgt → WStep base φ0 h0 w0 φ st.h w' → FR N φ w' tgt a' → a'.defers = a.defers → Q .normal a' w') → wpOps P ops Q ((List.range ops.size).drop off) a w
  | [], off, told, w, a, fr, h, S, hfr, F, k => by
    have h : off = ops.size := h
    subst h
    rw [List.drop_of_length_le (by simp)]
    exact k w a fr hfr S F rfl
  | (n, told2) :: l, off, told, w, a, fr, h, S, hfr, F, k => by
    obtain ⟨h1, h2, h3⟩ := h
    refine segR_at hc ho h1 h2 hout H0 G0 S hfr F ?_
    intro w' a' tgt htgt S' F' d
    exact segs_ok hc ho hout H0 G0 l (off + n) told2 h3 S' htgt F' fun w2 a2 t2 q1 q2 q3 q4 => k w2 a2 t2 q1 q2 q3 (q4.trans d)
/-- a law that is pieces, and then one long region -/
theorem law_segs [Lane] {P : Program} {cl : CallT} {L N : Nat} (hc : CallOk P 0 glN cl) (hmix : P.follows .mixedOrders = true) {f : FuncId} {fn : Func} {lb : Code} {rs : List Code} {keep : List Nat} {args : List AV} {us : Array Value} {r5 t2 : Nat} {ops : Array Oper} {w : World}
    (hf : P.funcs[f]? = some fn) (hb : fn.body = some lb) (hN : fn.ntmps = N) (hres : fn.results.toList = [.tmp t2]) (hlb : lb = chainC rs (.seq (.region r5 ops false) .ret))
    (G0 : GlobOk glN noEmb w) (hargs : All2 (VR noEmb w) args us.toList) (hlen : args.length ≤ N) {o : Option St} (ho : stG P cl L N rs keep args = o) {segs : List (Nat × List (Nat × AV))} (hs : SegsOk P cl N ops o 0 [] segs) (hsome : o.isSome = true) (hlast : lastTold [] segs = [(t2, .bool true)]) (ht2 : t2 < N) :
    Calls P f us w fun e w' => e = .returned (.bool true) ∧ (w'.os = w.os ∧ w'.tape = w.tape ∧ w'.output = w.output ∧ w.heap.size ≤ w'.heap.size ∧ ∀ k, k < w.heap.size → w'.heap[k]? = w.heap[k]?) := by
  cases ho' : o with
  | none => rw [ho'] at hsome; cases hsome
  | some st =>
  have hst := ho.trans ho'
  unfold stG at hst
  obtain ⟨fr0, e0, hst⟩ := bnd_some hst
  obtain ⟨s0, e1, hst⟩ := bnd_some hst
  obtain ⟨frA, e2, hst⟩ := bnd_some hst
  have hst := Option.some.inj hst
  rw [argsF_eq] at e0
  rw [codesB_eq] at e1
  refine calls_of_wp hf hb ?_
  rw [hN, hlb]
  have H0 : HR 0 noEmb noHeap w := HR.empty w
  have F0 := FR.start (N := N) e0 hargs hlen
  refine chainC_ok hc hmix rs (st := ⟨fr0, noHeap⟩) H0 G0 F0 e1 ?_
  intro φ4 w4 a4 s4 f4 d4
  have FA : FR N φ4 w4 st.fr a4 := by
    rw [← hst]
    exact f4.any e2 (fun t ht => by have := (List.mem_filter.1 ht).1; exact List.mem_range.1 this)
  have S : WStep 0 noEmb noHeap w φ4 st.h w4 := by
    rw [← hst]
    exact s4.toWStep.gc
  refine wp_seq (wp_region ?_)
  have key := segs_ok (Q := Exit.then (Code.wp P .ret (bodyPost P fn fun e w' => e = .returned (.bool true) ∧ (w'.os = w.os ∧ w'.tape = w.tape ∧ w'.output = w.output ∧ w.heap.size ≤ w'.heap.size ∧ ∀ k, k < w.heap.size → w'.heap[k]? = w.heap[k]?))) (bodyPost P fn fun e w' => e = .returned (.bool true) ∧ (w'.os = w.os ∧ w'.tape = w.tape ∧ w'.output = w.output ∧ w.heap.size ≤ w'.heap.size ∧ ∀ k, k < w.heap.size → w'.heap[k]? = w.heap[k]?))) hc ho' FA.out H0 G0 segs 0 [] hs S rfl FA ?_
  · exact key
  · intro w5 a5 tgt htgt S5 F5 d5
    refine wp_ret ?_
    rw [hlast] at htgt
    have hg : tgt.get t2 = some (.bool true) := by
      simp only [setAll, Option.bind_eq_some_iff, Option.some.injEq] at htgt
      obtain ⟨f1, h1, rfl⟩ := htgt
      exact Tr.get_set_same h1
    have hr : mapO (resA P st.h tgt) fn.results.toList = some [.bool true] := by
      rw [hres]
      simp only [mapO, resA, hg, liveV, Option.bind_some]
    obtain ⟨u, m1, m2⟩ := results_ok S5.hr F5 hr
    have hu : u = .bool true := by
      have m2' : VR φ4 w5 (.bool true) u := m2
      cases m2'; rfl
    exact ⟨by rw [d5, d4], u, m1, by rw [hu], S5.below⟩
end Go.Vai
