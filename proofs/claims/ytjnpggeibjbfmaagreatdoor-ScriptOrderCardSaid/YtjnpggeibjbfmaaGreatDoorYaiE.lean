/- The abstract machine: a law cut into pieces: what is not needed any more is forgotten, and each piece comes back to the same memory. -/
import Derived.Test.YtjnpggeibjbfmaaGreatDoorYaiD
import Derived.Lib.Join
import Derived.Lib.Repeat
namespace Go.Vai
set_option linter.unusedVariables false
set_option linter.unusedSimpArgs false
set_option linter.unusedSectionVars false
/-! what is kept -/
def gcT (t : Tr AObj) : List Nat → Tr AObj → Tr AObj
  | [], r => r
  | b :: l, r => match t.get b with
    | some o => (match r.set b o with | some r' => gcT t l r' | none => gcT t l r)
    | none => gcT t l r
def gcH (keep : List Nat) (h : Heap) : Heap := ⟨h.next, gcT h.objs keep .nil⟩
theorem gcT_get [Lane] {t : Tr AObj} : ∀ {l : List Nat} {r : Tr AObj} {b : Nat} {x : AObj}, (gcT t l r).get b = some x → r.get b = some x ∨ t.get b = some x
  | [], r, b, x, e => .inl e
  | c :: l, r, b, x, e => by
    unfold gcT at e
    split at e
    · rename_i o ho
      split at e
      · rename_i r' hr
        rcases gcT_get e with q | q
        · rw [Tr.get_set hr] at q
          by_cases k : b = c
          · rw [if_pos k] at q; cases q; rw [k]; exact .inr ho
          · rw [if_neg k] at q; exact .inl q
        · exact .inr q
      · exact gcT_get e
    · exact gcT_get e
theorem gcH_get [Lane] {keep : List Nat} {h : Heap} {b : Nat} {x : AObj} (e : (gcH keep h).objs.get b = some x) : h.objs.get b = some x := by
  rcases gcT_get e with q | q
  · rw [Tr.get_nil] at q; cases q
  · exact q
/-- the blocks that a value, an object leads to -/
def blk1 : AV → List Nat
  | .ptr (some a) => [a.b]
  | .slice (some a) _ _ _ => [a.b]
  | .map (some b) => [b]
  | _ => []
def blkV : AV → List Nat
  | .agg l => l.flatMap blk1
  | .tup l => l.flatMap blk1
  | .func _ l => l.flatMap blk1
  | x => blk1 x
def Tr.vals {α : Type} : Tr α → List α
  | .nil => []
  | .node v ⟨c0, c1, c2, c3, c4, c5, c6, c7, c8, c9, c10, c11, c12, c13, c14, c15⟩ => v.toList ++ (vals c0 ++ (vals c1 ++ (vals c2 ++ (vals c3 ++ (vals c4 ++ (vals c5 ++ (vals c6 ++ (vals c7 ++ (vals c8 ++ (vals c9 ++ (vals c10 ++ (vals c11 ++ (vals c12 ++ (vals c13 ++ (vals c14 ++ vals c15)))))))))))))))
def blkO : AObj → List Nat
  | .cells _ _ cs => cs.vals.flatMap fun c => blkV c.2
  | .map es => es.flatMap fun e => blkV e.1 ++ blkV e.2
  | .mapit m _ _ => [m]
  | _ => []
/-- what is reached from some blocks -/
def reach (h : Heap) : Nat → List Nat → List Nat → List Nat
  | 0, _, seen => seen
  | _, [], seen => seen
  | n + 1, b :: l, seen => bif seen.contains b then reach h n l seen else (match h.objs.get b with
    | some o => reach h n (blkO o ++ l) (b :: seen)
    | none => reach h n l (b :: seen))
def gcF (fr : Fr) (h : Heap) : Heap := gcH (reach h 1000000 (fr.vals.flatMap blkV) []) h
/-! coming back -/
def back0Ob (x y : Option AObj) : Bool :=
  match x with
  | none => true
  | some (.cells ro gen cs) => (match y with | some (.cells ro2 gen2 cs2) => (ro == ro2 && Nat.beq gen gen2) && Tr.sub sameC cs cs2 | _ => false)
  | some (.map es) => (match y with | some (.map es2) => sameE es es2 | _ => false)
  | _ => false
def back0B (h h2 : Heap) : Bool := (List.range h.next).all fun b => back0Ob (h.objs.get b) (h2.objs.get b)
/-- a frame of which less is told -/
def leF (N : Nat) (fr s tgt : Fr) : Bool := (List.range N).all fun t =>
  match tgt.get t with
  | none => (s.get t).isNone
  | some .any => true
  | some v => (match s.get t with
    | some v1 => same1 v v1 && (scalar2 v || (plain1 v && (match fr.get t with | some v0 => same1 v0 v | none => false)))
    | none => false)
structure Back0 (h h2 : Heap) : Prop where
  cells : ∀ b ro gen cs, h.objs.get b = some (.cells ro gen cs) → ∃ cs2, h2.objs.get b = some (.cells ro gen cs2) ∧ ∀ i lo v, cs.get i = some (lo, v) → cs2.get i = some (lo, v) ∧ plain1 v = true
  other : ∀ b x, h.objs.get b = some x → isCells x = false → h2.objs.get b = some x ∧ (∃ es, x = .map es ∧ ∀ e ∈ es, plain1 e.1 = true ∧ plain1 e.2 = true)
theorem back0B_ok {h h2 : Heap} (hf : ∀ b, h.next ≤ b → h.objs.get b = none) (e : back0B h h2 = true) : Back0 h h2 := by
  letI : Lane := Lane.some
  have key : ∀ b x, h.objs.get b = some x → back0Ob (some x) (h2.objs.get b) = true := by
    intro b x hx
    have hb : b < h.next := by
      rcases Nat.lt_or_ge b h.next with q | q
      · exact q
      · rw [hf b q] at hx; cases hx
    have := List.all_eq_true.1 e b (List.mem_range.2 hb)
    rwa [hx] at this
  refine ⟨?_, ?_⟩
  · intro b ro gen cs hx
    have q := key b _ hx
    unfold back0Ob at q
    simp only at q
    split at q
    case h_2 => cases q
    rename_i ro2 gen2 cs2 hy
    simp only [Bool.and_eq_true, beq_iff_eq, Nat.beq_eq] at q
    obtain ⟨⟨rfl, rfl⟩, q⟩ := q
    refine ⟨cs2, hy, fun i lo v hi => ?_⟩
    obtain ⟨y, k1, k2⟩ := Tr.sub_get q hi
    unfold sameC at k2
    simp only [Bool.and_eq_true, Nat.beq_eq] at k2
    obtain ⟨k2, k3, k4⟩ := k2
    have k3 := same1_eq k3
    refine ⟨?_, k4⟩
    rw [k1]
    obtain ⟨y1, y2⟩ := y
    simp only at k2 k3
    rw [k2, k3]
  · intro b x hx hnc
    have q := key b _ hx
    unfold back0Ob at q
    cases x with
    | cells => cases hnc
    | iter => cases q
    | viter => cases q
    | mapit => cases q
    | miter => cases q
    | map es =>
      simp only at q
      split at q
      case h_2 => cases q
      rename_i es2 hy
      obtain ⟨q1, q2⟩ := sameE_eq q
      subst q1
      exact ⟨hy, es, rfl, q2⟩
variable [Lane]
variable {P : Program} {base : Nat} {φ φ' φ'' φ0 : Emb} {h h' h'' h0 : Heap} {w w' w'' w0 : World}
theorem HR.less {h1 h2 : Heap} (hn : h1.next = h2.next) (hg : ∀ b x, h2.objs.get b = some x → h1.objs.get b = some x) (H : HR base φ h1 w) : HR base φ h2 w := by
  refine ⟨fun b hb => ⟨?_, (H.fresh b (by rw [hn]; exact hb)).2⟩, H.low, H.range, H.inj, fun b ro gen cs e => H.los b ro gen cs (hg _ _ e), fun b ro gen cs g c e => H.cells b ro gen cs g c (hg _ _ e), fun b x g c e => H.other b x g c (hg _ _ e)⟩
  cases q : h2.objs.get b with
  | none => rfl
  | some x => have := hg _ _ q; rw [(H.fresh b (by rw [hn]; exact hb)).1] at this; cases this
theorem WStep.less {h1 h2 : Heap} (hn : h1.next = h2.next) (hg : ∀ b x, h2.objs.get b = some x → h1.objs.get b = some x) (s : WStep base φ h w φ' h1 w') : WStep base φ h w φ' h2 w' :=
  ⟨s.hr.less hn hg, s.ext, s.rows, s.kept, s.newer, by rw [← hn]; exact s.next, fun b hb q => by
    cases q2 : h2.objs.get b with
    | none => rw [q2] at q; cases q
    | some x => exact s.known b hb (by rw [hg _ _ q2, ← q2]; exact q)⟩
theorem WStep.gc {keep : List Nat} {h1 : Heap} (s : WStep base φ h w φ' h1 w') : WStep base φ h w φ' (gcH keep h1) w' := WStep.less (h1 := h1) (h2 := gcH keep h1) rfl (fun _ _ e => gcH_get e) s
theorem HR.ret (H : HR base φ h w) {h2 : Heap} (H2 : HR base φ' h2 w') (ext : Ext φ φ') (hb : Back0 h h2) : HR base φ h w' := by
  refine ⟨H.fresh, H2.low, fun b g c e => H2.range b g c (ext _ _ _ e), H.inj, H.los, ?_, ?_⟩
  · intro b ro gen cs g c e1 e2
    obtain ⟨p1, p2, p3, arr0, t0, fz0, pa0, pf0, pk0⟩ := H.cells b ro gen cs g c e1 e2
    obtain ⟨cs2, q1, q2⟩ := hb.cells b ro gen cs e1
    obtain ⟨r1, r2, r3, arr, t, fz, ra, rf, rk⟩ := H2.cells b ro gen cs2 g c q1 (ext _ _ _ e2)
    refine ⟨p1, p2, p3, arr, t, fz, ra, rf, ?_⟩
    intro i lo v hi hle hao hie
    obtain ⟨k1, k2⟩ := q2 i lo v hi
    obtain ⟨u0, _, v0, _⟩ := pk0 i lo v hi hle hao hie
    obtain ⟨u, m1, m2, m3⟩ := rk i lo v k1 hle hao hie
    exact ⟨u, m1, VR.back k2 v0 m2 ext, m3⟩
  · intro b x g c e1 hx e2
    obtain ⟨p1, p0, o0, po, pr⟩ := H.other b x g c e1 hx e2
    obtain ⟨k1, es, rfl, hes⟩ := hb.other b x e1 hx
    obtain ⟨q1, q0, o, qo, qr⟩ := H2.other b _ g c k1 hx (ext _ _ _ e2)
    refine ⟨p1, p0, o, qo, ?_⟩
    cases pr with
    | map _ ms0 k0 kb0 =>
    cases qr with
    | map _ ms1 k1' kb1 => exact .map es ms1 (ents_back hes ext k0 k1') kb1
/-- a piece was done from a state; what came back: the world moves on, the state's memory is told as it was -/
theorem WStep.ret (H0 : HR base φ0 h0 w0) (S : WStep base φ0 h0 w0 φ h w) {h2 : Heap} (s : WStep base φ h w φ' h2 w') (hb : Back0 h h2) : WStep base φ0 h0 w0 φ h w' := by
  have T := S.trans H0 s
  exact ⟨S.hr.ret s.hr s.ext hb, S.ext, T.rows, T.kept, S.newer, S.next, S.known⟩
theorem scalar2_VR {x : AV} {v : Value} (hs : scalar2 x = true) (k : VR φ w x v) : VR φ' w' x v := by
  have one : ∀ {y : AV} {u : Value}, scalar1 y = true → VR φ w y u → VR φ' w' y u := by
    intro y u hy q
    cases q <;> first | (simp [scalar1] at hy; done) | constructor
  cases k with
  | vec l y _ hl h2 k => exact .vec l y v hl h2 (one (List.all_eq_true.1 hs _ (List.mem_of_getElem? hl)) k)
  | bool b => exact .bool b
  | int k n => exact .int k n
  | str l => exact .str l
  | _ => simp [scalar2, scalar1] at hs
theorem FR.ret {N : Nat} {fr s tgt : Fr} {a a' : Act} (f : FR N φ w fr a) (f2 : FR N φ' w' s a') (hx : Ext φ φ') (ht : ∀ t, N ≤ t → tgt.get t = none) (e : leF N fr s tgt = true)
    (hold : ∀ t v, fr.get t = some v → plain1 v = true → s.get t = some v → ∃ u, VR φ w v u) : FR N φ w' tgt a' := by
  refine ⟨f2.size, fun t htN => ?_, ht⟩
  have q := List.all_eq_true.1 e t (List.mem_range.2 htN)
  have g2 := f2.get t htN
  split at q
  · rename_i h1
    right
    rw [h1]
    cases hs : s.get t with
    | none =>
      rw [hs] at g2
      have g2 := g2.resolve_left (by simp)
      simp only [Option.getD_none] at g2 ⊢
      generalize a'.tmps.getD t undef = u at g2
      cases g2; exact .u
    | some x => rw [hs] at q; cases q
  · rename_i h1; left; rw [h1]; rfl
  · rename_i v hne h1
    split at q
    case h_2 => cases q
    rename_i v1 hs
    simp only [Bool.and_eq_true, Bool.or_eq_true] at q
    obtain ⟨q1, q2⟩ := q
    have e1 := same1_eq q1
    subst e1
    rw [hs] at g2
    have hva : v ≠ .any := fun q => hne (by rw [← q])
    have g2 := g2.resolve_left (by simpa using hva)
    simp only [Option.getD_some] at g2
    right
    rw [h1]
    simp only [Option.getD_some]
    rcases q2 with q2 | ⟨q2, q3⟩
    · exact scalar2_VR q2 g2
    · split at q3
      case h_2 => cases q3
      rename_i v0 h0
      have e0 := same1_eq q3
      subst e0
      obtain ⟨u, hu⟩ := hold t _ h0 q2 hs
      exact VR.back q2 hu g2 hx
section
variable {cl : CallT} {L N : Nat} {Q : Exit → Act → World → Prop}
/-- a piece of a region: it comes back, and leaves in the frame what is told -/
def segB (P : Program) (cl : CallT) (N : Nat) (ops : Array Oper) (seg : List Oper) (h : Heap) (fr tgt : Fr) : Bool :=
  match (opsB P glN N ops seg).f cl fr h with
  | some s => back0B h s.h && leF N fr s.fr tgt
  | none => false
theorem seg_ok (hc : CallOk P base glN cl) {ops : Array Oper} {l l2 : List Nat} {os : List Oper} (hi : All2 (fun i o => ops[i]? = some o) l os) {fr tgt : Fr} (e : segB P cl N ops os h fr tgt = true) (ht : ∀ t, N ≤ t → tgt.get t = none)
    (H0 : HR base φ0 h0 w0) (G0 : GlobOk glN φ0 w0) (S : WStep base φ0 h0 w0 φ h w) {a : Act} (F : FR N φ w fr a) (k : ∀ w' a', WStep base φ0 h0 w0 φ h w' → FR N φ w' tgt a' → a'.defers = a.defers → wpOps P ops Q l2 a' w') : wpOps P ops Q (l ++ l2) a w := by
  unfold segB at e
  split at e
  case h_2 => cases e
  rename_i s hs
  simp only [Bool.and_eq_true] at e
  rw [opsB_eq] at hs
  refine ops_go hc hi (st := ⟨fr, h⟩) S.hr (G0.wstep S) F hs ?_
  intro φ' w' a' s' f' d
  have hb := back0B_ok (fun b hb => (S.hr.fresh b hb).1) e.1
  refine k w' a' (S.ret H0 s'.toWStep hb) (F.ret f' s'.ext ht e.2 ?_) d
  intro t v h1 h2 h3
  have htN : t < N := by
    rcases Nat.lt_or_ge t N with q | q
    · exact q
    · rw [F.out t q] at h1; cases h1
  have g := F.get t htN
  rw [h1] at g
  rcases g with g | g
  · have g : v = .any := g
    subst g
    simp [plain1, plain0] at h2
  · exact ⟨_, g⟩
theorem seg_at (hc : CallOk P base glN cl) {ops : Array Oper} {off n : Nat} {fr tgt : Fr} (e : segB P cl N ops ((ops.toList.drop off).take n) h fr tgt = true) (ht : ∀ t, N ≤ t → tgt.get t = none)
    (H0 : HR base φ0 h0 w0) (G0 : GlobOk glN φ0 w0) (S : WStep base φ0 h0 w0 φ h w) {a : Act} (F : FR N φ w fr a) (k : ∀ w' a', WStep base φ0 h0 w0 φ h w' → FR N φ w' tgt a' → a'.defers = a.defers → wpOps P ops Q ((List.range ops.size).drop (off + n)) a' w') : wpOps P ops Q ((List.range ops.size).drop off) a w := by
  have hi := ((range_all ops).drop off).take n
  have e2 : (List.range ops.size).drop off = ((List.range ops.size).drop off).take n ++ (List.range ops.size).drop (off + n) := by
    rw [← List.drop_drop, List.take_append_drop]
  rw [e2]
  exact seg_ok hc hi e ht H0 G0 S F k
/-- pieces one behind the other -/
def chainC : List Code → Code → Code
  | [], X => X
  | r :: rs, X => .seq r (chainC rs X)
theorem chainC_ok (hc : CallOk P 0 glN cl) (hmix : P.follows .mixedOrders = true) {X : Code} {Q : Exit → Act → World → Prop} : ∀ (rs : List Code) {φ : Emb} {w : World} {st st' : St} {a : Act}, HR 0 φ st.h w → GlobOk glN φ w → FR N φ w st.fr a → codesA P cl L N rs st = some st' →
    (∀ φ' w' a', Step 0 φ st.h w φ' st'.h w' → FR N φ' w' st'.fr a' → a'.defers = a.defers → X.wp P Q a' w') → (chainC rs X).wp P Q a w
  | [], φ, w, st, st', a, H, G, f, e, k => by
    simp only [codesA, Option.some.injEq] at e
    subst e
    exact k φ w a (Step.refl H) f rfl
  | r :: rs, φ, w, st, st', a, H, G, f, e, k => by
    unfold codesA at e
    split at e
    case h_2 => cases e
    rename_i s1 e1
    refine wp_seq (code_ok hc hmix L r H G f e1 ?_)
    intro φ' w' a' s f' d
    exact chainC_ok hc hmix rs s.hr (G.step s) f' e fun φ2 w2 a2 s2 f2 d2 => k φ2 w2 a2 (s.trans H s2) f2 (d2.trans d)
end
def setAll : List (Nat × AV) → Fr → Option Fr
  | [], fr => some fr
  | p :: l, fr => (fr.set p.1 p.2).bind (setAll l)
/-- a frame of which just this is told -/
def tellF (N : Nat) (fr : Fr) (keep : List Nat) (told : List (Nat × AV)) : Option Fr :=
  bnd (anyFr ((List.range N).filter fun t => !keep.contains t) fr) (setAll told)
/-- the state behind some pieces: what is not needed is forgotten -/
def stG (P : Program) (cl : CallT) (L N : Nat) (rs : List Code) (keep : List Nat) (args : List AV) : Option St :=
  bnd (argsF 0 args .nil) fun fr => bnd (codesB P cl L N rs fr noHeap) fun s => bnd (anyFr ((List.range N).filter fun t => !keep.contains t) s.fr) fun fr => some ⟨fr, gcF fr s.h⟩
/-- one piece of a region, from that state -/
def segR (P : Program) (cl : CallT) (N : Nat) (ops : Array Oper) (o : Option St) (off n : Nat) (told told2 : List (Nat × AV)) : Bool :=
  match o with
  | none => false
  | some st => (match setAll told st.fr with
    | none => false
    | some fr => (match setAll told2 st.fr with
      | none => false
      | some tgt => segB P cl N ops ((ops.toList.drop off).take n) st.h fr tgt))
theorem setAll_out [Lane] {N : Nat} : ∀ {l : List (Nat × AV)} {fr fr' : Fr}, setAll l fr = some fr' → (l.all fun p => Nat.blt p.1 N) = true → (∀ t, N ≤ t → fr.get t = none) → ∀ t, N ≤ t → fr'.get t = none
  | [], fr, fr', e, _, h => by cases e; exact h
  | p :: l, fr, fr', e, hl, h => by
    simp only [setAll, Option.bind_eq_some_iff] at e
    obtain ⟨f1, e1, e2⟩ := e
    simp only [List.all_cons, Bool.and_eq_true] at hl
    refine setAll_out e2 hl.2 fun t ht => ?_
    have := Nat.le_of_ble_eq_true hl.1
    rw [Tr.get_set e1, if_neg (by omega)]
    exact h t ht
theorem segR_at [Lane] {P : Program} {cl : CallT} {N : Nat} {Q : Exit → Act → World → Prop} {base : Nat} {φ φ0 : Emb} {h0 : Heap} {w w0 : World} (hc : CallOk P base glN cl) {ops : Array Oper} {o : Option St} {st : St} (ho : o = some st) {off n : Nat} {told told2 : List (Nat × AV)} (e : segR P cl N ops o off n told told2 = true)
    (h2 : (told2.all fun p => Nat.blt p.1 N) = true) (hout : ∀ t, N ≤ t → st.fr.get t = none) (H0 : HR base φ0 h0 w0) (G0 : GlobOk glN φ0 w0) (S : WStep base φ0 h0 w0 φ st.h w) {a : Act} {fr : Fr} (hfr : setAll told st.fr = some fr) (F : FR N φ w fr a)
    (k : ∀ w' a' tgt, setAll told2 st.fr = some tgt → WStep base φ0 h0 w0 φ st.h w' → FR N φ w' tgt a' → a'.defers = a.defers → wpOps P ops Q ((List.range ops.size).drop (off + n)) a' w') : wpOps P ops Q ((List.range ops.size).drop off) a w := by
  unfold segR at e
  simp only [ho, hfr] at e
  split at e
  · cases e
  rename_i tgt htgt
  exact seg_at hc e (setAll_out htgt h2 hout) H0 G0 S F fun w' a' S' F' d => k w' a' tgt htgt S' F' d
def SegsOk (P : Program) (cl : CallT) (N : Nat) (ops : Array Oper) (o : Option St) : Nat → List (Nat × AV) → List (Nat × List (Nat × AV)) → Prop
  | off, _, [] => off = ops.size
  | off, told, (n, told2) :: l => segR P cl N ops o off n told told2 = true ∧ (told2.all fun p => Nat.blt p.1 N) = true ∧ SegsOk P cl N ops o (off + n) told2 l
def lastTold : List (Nat × AV) → List (Nat × List (Nat × AV)) → List (Nat × AV)
  | told, [] => told
  | _, (_, told2) :: l => lastTold told2 l
theorem segs_ok [Lane] {P : Program} {cl : CallT} {N : Nat} {Q : Exit → Act → World → Prop} {base : Nat} {φ φ0 : Emb} {h0 : Heap} {w0 : World} (hc : CallOk P base glN cl) {ops : Array Oper} {o : Option St} {st : St} (ho : o = some st) (hout : ∀ t, N ≤ t → st.fr.get t = none) (H0 : HR base φ0 h0 w0) (G0 : GlobOk glN φ0 w0) :
    ∀ (l : List (Nat × List (Nat × AV))) (off : Nat) (told : List (Nat × AV)) {w : World} {a : Act} {fr : Fr}, SegsOk P cl N ops o off told l → WStep base φ0 h0 w0 φ st.h w → setAll told st.fr = some fr → FR N φ w fr a →
    (∀ w' a' tgt, setAll (lastTold told l) st.fr = some tgt → WStep base φ0 h0 w0 φ st.h w' → FR N φ w' tgt a' → a'.defers = a.defers → Q .normal a' w') → wpOps P ops Q ((List.range ops.size).drop off) a w
  | [], off, told, w, a, fr, h, S, hfr, F, k => by
    have h : off = ops.size := h
    subst h
    rw [List.drop_of_length_le (by simp)]
    exact k w a fr hfr S F rfl
  | (n, told2) :: l, off, told, w, a, fr, h, S, hfr, F, k => by
    obtain ⟨h1, h2, h3⟩ := h
    refine segR_at hc ho h1 h2 hout H0 G0 S hfr F ?_
    intro w' a' tgt htgt S' F' d
    exact segs_ok hc ho hout H0 G0 l (off + n) told2 h3 S' htgt F' fun w2 a2 t2 q1 q2 q3 q4 => k w2 a2 t2 q1 q2 q3 (q4.trans d)
/-- a law that is pieces, and then one long region -/
theorem law_segs [Lane] {P : Program} {cl : CallT} {L N : Nat} (hc : CallOk P 0 glN cl) (hmix : P.follows .mixedOrders = true) {f : FuncId} {fn : Func} {lb : Code} {rs : List Code} {keep : List Nat} {args : List AV} {us : Array Value} {r5 t2 : Nat} {ops : Array Oper} {w : World}
    (hf : P.funcs[f]? = some fn) (hb : fn.body = some lb) (hN : fn.ntmps = N) (hres : fn.results.toList = [.tmp t2]) (hlb : lb = chainC rs (.seq (.region r5 ops false) .ret))
    (G0 : GlobOk glN noEmb w) (hargs : All2 (VR noEmb w) args us.toList) (hlen : args.length ≤ N) {o : Option St} (ho : stG P cl L N rs keep args = o) {segs : List (Nat × List (Nat × AV))} (hs : SegsOk P cl N ops o 0 [] segs) (hsome : o.isSome = true) (hlast : lastTold [] segs = [(t2, .bool true)]) (ht2 : t2 < N) :
    Calls P f us w fun e w' => e = .returned (.bool true) ∧ (w'.os = w.os ∧ w'.tape = w.tape ∧ w'.output = w.output ∧ w.heap.size ≤ w'.heap.size ∧ ∀ k, k < w.heap.size → w'.heap[k]? = w.heap[k]?) := by
  cases ho' : o with
  | none => rw [ho'] at hsome; cases hsome
  | some st =>
  have hst := ho.trans ho'
  unfold stG at hst
  obtain ⟨fr0, e0, hst⟩ := bnd_some hst
  obtain ⟨s0, e1, hst⟩ := bnd_some hst
  obtain ⟨frA, e2, hst⟩ := bnd_some hst
  have hst := Option.some.inj hst
  rw [argsF_eq] at e0
  rw [codesB_eq] at e1
  refine calls_of_wp hf hb ?_
  rw [hN, hlb]
  have H0 : HR 0 noEmb noHeap w := HR.empty w
  have F0 := FR.start (N := N) e0 hargs hlen
  refine chainC_ok hc hmix rs (st := ⟨fr0, noHeap⟩) H0 G0 F0 e1 ?_
  intro φ4 w4 a4 s4 f4 d4
  have FA : FR N φ4 w4 st.fr a4 := by
    rw [← hst]
    exact f4.any e2 (fun t ht => by have := (List.mem_filter.1 ht).1; exact List.mem_range.1 this)
  have S : WStep 0 noEmb noHeap w φ4 st.h w4 := by
    rw [← hst]
    exact s4.toWStep.gc
  refine wp_seq (wp_region ?_)
  have key := segs_ok (Q := Exit.then (Code.wp P .ret (bodyPost P fn fun e w' => e = .returned (.bool true) ∧ (w'.os = w.os ∧ w'.tape = w.tape ∧ w'.output = w.output ∧ w.heap.size ≤ w'.heap.size ∧ ∀ k, k < w.heap.size → w'.heap[k]? = w.heap[k]?))) (bodyPost P fn fun e w' => e = .returned (.bool true) ∧ (w'.os = w.os ∧ w'.tape = w.tape ∧ w'.output = w.output ∧ w.heap.size ≤ w'.heap.size ∧ ∀ k, k < w.heap.size → w'.heap[k]? = w.heap[k]?))) hc ho' FA.out H0 G0 segs 0 [] hs S rfl FA ?_
  · exact key
  · intro w5 a5 tgt htgt S5 F5 d5
    refine wp_ret ?_
    rw [hlast] at htgt
    have hg : tgt.get t2 = some (.bool true) := by
      simp only [setAll, Option.bind_eq_some_iff, Option.some.injEq] at htgt
      obtain ⟨f1, h1, rfl⟩ := htgt
      exact Tr.get_set_same h1
    have hr : mapO (resA P st.h tgt) fn.results.toList = some [.bool true] := by
      rw [hres]
      simp only [mapO, resA, hg, liveV, Option.bind_some]
    obtain ⟨u, m1, m2⟩ := results_ok S5.hr F5 hr
    have hu : u = .bool true := by
      have m2' : VR φ4 w5 (.bool true) u := m2
      cases m2'; rfl
    exact ⟨by rw [d5, d4], u, m1, by rw [hu], S5.below⟩
end Go.Vai
/- The abstract machine: a law that goes over a table: each round comes back to the same memory. -/
namespace Go.Vai
set_option linter.unusedVariables false
set_option linter.unusedSimpArgs false
set_option linter.unusedSectionVars false
/-- a round of the law's loop, from the state behind the pieces -/
def roundR (P : Program) (cl : CallT) (L N : Nat) (body : Code) (o : Option St) (told told2 : List (Nat × AV)) : Bool :=
  match o with
  | none => false
  | some st => (match setAll told st.fr with
    | none => false
    | some fr => (match setAll told2 st.fr with
      | none => false
      | some tgt => (match (codeB P glN L N body).f cl fr st.h with
        | none => false
        | some (x, s) => (match x with
          | .normal => back0B st.h s.h && leF N fr s.fr tgt
          | _ => false))))
/-- the loop's end, and what stands behind it -/
def endR (P : Program) (cl : CallT) (L N : Nat) (body c9 : Code) (b0 t2 : Nat) (o : Option St) (told : List (Nat × AV)) : Bool :=
  match o with
  | none => false
  | some st => (match setAll told st.fr with
    | none => false
    | some fr => (match (codeB P glN L N body).f cl fr st.h with
      | none => false
      | some (x, s) => (match x with
        | .exit b => Nat.beq b b0 && (match codesB P cl L N [c9] s.fr s.h with
          | none => false
          | some s2 => (match s2.fr.get t2 with | some (.bool b) => b | _ => false))
        | _ => false)))
section
variable [Lane] {P : Program} {cl : CallT} {L N : Nat} {base : Nat} {φ φ0 : Emb} {h0 : Heap} {w w0 : World}
def RoundsOk (P : Program) (cl : CallT) (L N : Nat) (body : Code) (o : Option St) : List (Nat × AV) → List (List (Nat × AV)) → Prop
  | _, [] => True
  | told, t2 :: l => roundR P cl L N body o told t2 = true ∧ (t2.all fun p => Nat.blt p.1 N) = true ∧ RoundsOk P cl L N body o t2 l
def lastR2 : List (Nat × AV) → List (List (Nat × AV)) → List (Nat × AV)
  | told, [] => told
  | _, t2 :: l => lastR2 t2 l
theorem rounds_ok (hc : CallOk P base glN cl) (hmix : P.follows .mixedOrders = true) {body : Code} {o : Option St} {st : St} (ho : o = some st) (hout : ∀ t, N ≤ t → st.fr.get t = none) (H0 : HR base φ0 h0 w0) (G0 : GlobOk glN φ0 w0) {Q : Exit → Act → World → Prop} :
    ∀ (l : List (List (Nat × AV))) (told : List (Nat × AV)) {w : World} {a : Act} {fr : Fr}, RoundsOk P cl L N body o told l → WStep base φ0 h0 w0 φ st.h w → setAll told st.fr = some fr → FR N φ w fr a →
    (∀ w' a' tgt, setAll (lastR2 told l) st.fr = some tgt → WStep base φ0 h0 w0 φ st.h w' → FR N φ w' tgt a' → a'.defers = a.defers → body.wp P (Exit.then (fun _ _ => False) Q) a' w') → Code.rounds P body Q (l.length + 1) a w
  | [], told, w, a, fr, h, S, hfr, F, k => by
    have := k w a fr hfr S F rfl
    exact this
  | t2 :: l, told, w, a, fr, h, S, hfr, F, k => by
    obtain ⟨h1, h2, h3⟩ := h
    unfold roundR at h1
    simp only [ho, hfr] at h1
    split at h1
    · cases h1
    rename_i tgt htgt
    split at h1
    · cases h1
    rename_i x s hs
    cases x with
    | exit _ => cases h1
    | ret => cases h1
    | normal =>
    simp only [Bool.and_eq_true] at h1
    rw [codeB_eq] at hs
    have ht := setAll_out htgt h2 hout
    show body.wp P (Exit.then (Code.rounds P body Q (l.length + 1)) Q) a w
    refine code_ok hc hmix L body (st := ⟨fr, st.h⟩) S.hr (G0.wstep S) F hs ?_
    intro φ' w' a' s' f' d
    have hb := back0B_ok (fun b hb => (S.hr.fresh b hb).1) h1.1
    show Code.rounds P body Q (l.length + 1) a' w'
    refine rounds_ok hc hmix ho hout H0 G0 l t2 h3 (S.ret H0 s'.toWStep hb) htgt (F.ret f' s'.ext ht h1.2 ?_) (fun w2 a2 tgt2 q1 q2 q3 q4 => k w2 a2 tgt2 q1 q2 q3 (q4.trans d))
    intro t v h1 h2 h3
    have htN : t < N := by
      rcases Nat.lt_or_ge t N with q | q
      · exact q
      · rw [F.out t q] at h1; cases h1
    have g := F.get t htN
    rw [h1] at g
    rcases g with g | g
    · have g : v = .any := g
      subst g
      simp [plain1, plain0] at h2
    · exact ⟨_, g⟩
/-- a law that is pieces, and then a loop over a table -/
theorem law_rounds (hc : CallOk P 0 glN cl) (hmix : P.follows .mixedOrders = true) {f : FuncId} {fn : Func} {lb body c9 : Code} {rs : List Code} {keep : List Nat} {args : List AV} {us : Array Value} {b0 t2 : Nat} {w : World}
    (hf : P.funcs[f]? = some fn) (hb : fn.body = some lb) (hN : fn.ntmps = N) (hres : fn.results.toList = [.tmp t2]) (hne : rs ≠ []) (hlb : lb = spineC rs (.block b0 (.loop body)) (.seq c9 .ret))
    (G0 : GlobOk glN noEmb w) (hargs : All2 (VR noEmb w) args us.toList) (hlen : args.length ≤ N) {o : Option St} (ho : stG P cl L N rs keep args = o) {l : List (List (Nat × AV))} (hs : RoundsOk P cl L N body o [] l) (hend : endR P cl L N body c9 b0 t2 o (lastR2 [] l) = true) :
    Calls P f us w fun e w' => e = .returned (.bool true) ∧ (w'.os = w.os ∧ w'.tape = w.tape ∧ w'.output = w.output ∧ w.heap.size ≤ w'.heap.size ∧ ∀ k, k < w.heap.size → w'.heap[k]? = w.heap[k]?) := by
  cases ho' : o with
  | none => rw [ho'] at hend; cases hend
  | some st =>
  have hst := ho.trans ho'
  unfold stG at hst
  obtain ⟨fr0, e0, hst⟩ := bnd_some hst
  obtain ⟨s0, e1, hst⟩ := bnd_some hst
  obtain ⟨frA, e2, hst⟩ := bnd_some hst
  have hst := Option.some.inj hst
  rw [argsF_eq] at e0
  rw [codesB_eq] at e1
  refine calls_of_wp hf hb ?_
  rw [hN, hlb]
  have H0 : HR 0 noEmb noHeap w := HR.empty w
  have F0 := FR.start (N := N) e0 hargs hlen
  refine spineC_ok hc hmix rs (st := ⟨fr0, noHeap⟩) hne H0 G0 F0 e1 ?_
  intro φ4 w4 a4 s4 f4 d4
  have FA : FR N φ4 w4 st.fr a4 := by
    rw [← hst]
    exact f4.any e2 (fun t ht => by have := (List.mem_filter.1 ht).1; exact List.mem_range.1 this)
  have S : WStep 0 noEmb noHeap w φ4 st.h w4 := by
    rw [← hst]
    exact s4.toWStep.gc
  refine wp_block (wp_loop_rounds (l.length + 1) (rounds_ok hc hmix ho' FA.out H0 G0 l [] hs S rfl FA ?_))
  intro w5 a5 tgt htgt S5 F5 d5
  unfold endR at hend
  simp only [ho', htgt] at hend
  split at hend
  · cases hend
  rename_i x s hsx
  cases x with
  | normal => cases hend
  | ret => cases hend
  | exit b =>
  simp only [Bool.and_eq_true] at hend
  obtain ⟨hbb, hend⟩ := hend
  have hbb := Nat.eq_of_beq_eq_true hbb
  subst hbb
  split at hend
  · cases hend
  rename_i s2 hs2
  split at hend
  case h_2 => cases hend
  rename_i bb hg
  subst hend
  rw [codeB_eq] at hsx
  rw [codesB_eq] at hs2
  refine code_ok hc hmix L body (st := ⟨tgt, st.h⟩) S5.hr (G0.wstep S5) F5 hsx ?_
  intro φ6 w6 a6 s6 f6 d6
  show Exit.inBlock b _ (.exit b) a6 w6
  simp only [Exit.inBlock, if_pos]
  show Code.wp P (.seq c9 .ret) _ a6 w6
  unfold codesA at hs2
  split at hs2
  case h_2 => cases hs2
  rename_i s3 hs3
  simp only [codesA, Option.some.injEq] at hs2
  subst hs2
  refine wp_seq (code_ok hc hmix L c9 s6.hr (G0.wstep (S5.trans H0 s6.toWStep)) f6 hs3 ?_)
  intro φ7 w7 a7 s7 f7 d7
  refine wp_ret ?_
  have hr : mapO (resA P s3.h s3.fr) fn.results.toList = some [.bool true] := by
    rw [hres]
    simp only [mapO, resA, hg, liveV, Option.bind_some]
  obtain ⟨u, m1, m2⟩ := results_ok s7.hr f7 hr
  have hu : u = .bool true := by
    have m2' : VR φ7 w7 (.bool true) u := m2
    cases m2'; rfl
  exact ⟨by rw [d7, d6, d5, d4], u, m1, by rw [hu], ((S5.trans H0 s6.toWStep).trans H0 s7.toWStep).below⟩
end
end Go.Vai
/- The abstract machine: a law that goes over two tables, one behind the other. -/
namespace Go.Vai
set_option linter.unusedVariables false
set_option linter.unusedSimpArgs false
set_option linter.unusedSectionVars false
/-- the first loop's end, the pieces behind it, and what is kept -/
def midG (P : Program) (cl : CallT) (L N : Nat) (body : Code) (b0 : Nat) (rs : List Code) (keep : List Nat) (o : Option St) (told : List (Nat × AV)) : Option St :=
  bnd o fun st => bnd (setAll told st.fr) fun fr => bnd ((codeB P glN L N body).f cl fr st.h) fun x =>
    match x with
    | (.exit b, s) => cond (Nat.beq b b0) (bnd (codesB P cl L N rs s.fr s.h) fun s2 => bnd (anyFr ((List.range N).filter fun t => !keep.contains t) s2.fr) fun fr2 => some ⟨fr2, gcF fr2 s2.h⟩) none
    | _ => none
section
variable [Lane] {P : Program} {cl : CallT} {L N : Nat} {base : Nat} {φ φ0 : Emb} {h0 : Heap} {w w0 : World}
theorem law_rounds2 (hc : CallOk P 0 glN cl) (hmix : P.follows .mixedOrders = true) {f : FuncId} {fn : Func} {lb body body2 c9 : Code} {rs rs2 : List Code} {keep keep2 : List Nat} {args : List AV} {us : Array Value} {b0 b1 t2 : Nat} {w : World}
    (hf : P.funcs[f]? = some fn) (hb : fn.body = some lb) (hN : fn.ntmps = N) (hres : fn.results.toList = [.tmp t2]) (hne : rs ≠ []) (hne2 : rs2 ≠ []) (hlb : lb = spineC rs (.block b0 (.loop body)) (spineC rs2 (.block b1 (.loop body2)) (.seq c9 .ret)))
    (G0 : GlobOk glN noEmb w) (hargs : All2 (VR noEmb w) args us.toList) (hlen : args.length ≤ N) {o : Option St} (ho : stG P cl L N rs keep args = o) {l : List (List (Nat × AV))} (hs : RoundsOk P cl L N body o [] l)
    {o2 : Option St} (ho2 : midG P cl L N body b0 rs2 keep2 o (lastR2 [] l) = o2) {l2 : List (List (Nat × AV))} (hs2 : RoundsOk P cl L N body2 o2 [] l2) (hend : endR P cl L N body2 c9 b1 t2 o2 (lastR2 [] l2) = true) :
    Calls P f us w fun e w' => e = .returned (.bool true) ∧ (w'.os = w.os ∧ w'.tape = w.tape ∧ w'.output = w.output ∧ w.heap.size ≤ w'.heap.size ∧ ∀ k, k < w.heap.size → w'.heap[k]? = w.heap[k]?) := by
  cases ho2' : o2 with
  | none => rw [ho2'] at hend; cases hend
  | some st2 =>
  have hmid := ho2.trans ho2'
  unfold midG at hmid
  obtain ⟨st, ho', hmid⟩ := bnd_some hmid
  obtain ⟨frM, htold, hmid⟩ := bnd_some hmid
  obtain ⟨⟨x, s⟩, hsx, hm⟩ := bnd_some hmid
  have hst := ho.trans ho'
  unfold stG at hst
  obtain ⟨fr0, e0, hst⟩ := bnd_some hst
  obtain ⟨s0, e1, hst⟩ := bnd_some hst
  obtain ⟨frA, e2, hst⟩ := bnd_some hst
  have hst := Option.some.inj hst
  rw [argsF_eq] at e0
  rw [codesB_eq] at e1
  refine calls_of_wp hf hb ?_
  rw [hN, hlb]
  have H0 : HR 0 noEmb noHeap w := HR.empty w
  have F0 := FR.start (N := N) e0 hargs hlen
  refine spineC_ok hc hmix rs (st := ⟨fr0, noHeap⟩) hne H0 G0 F0 e1 ?_
  intro φ4 w4 a4 s4 f4 d4
  have FA : FR N φ4 w4 st.fr a4 := by
    rw [← hst]
    exact f4.any e2 (fun t ht => by have := (List.mem_filter.1 ht).1; exact List.mem_range.1 this)
  have S : WStep 0 noEmb noHeap w φ4 st.h w4 := by
    rw [← hst]
    exact s4.toWStep.gc
  refine wp_block (wp_loop_rounds (l.length + 1) (rounds_ok hc hmix ho' FA.out H0 G0 l [] hs S rfl FA ?_))
  intro w5 a5 tgt htgt S5 F5 d5
  rw [htold] at htgt
  cases htgt
  cases x with
  | normal => cases hm
  | ret => cases hm
  | exit b =>
  replace hm : cond (Nat.beq b b0) (bnd (codesB P cl L N rs2 s.fr s.h) fun s2 => bnd (anyFr ((List.range N).filter fun t => !keep2.contains t) s2.fr) fun fr2 => some ⟨fr2, gcF fr2 s2.h⟩) none = some st2 := hm
  cases hbb : Nat.beq b b0 with
  | false => rw [hbb] at hm; cases hm
  | true =>
  rw [hbb, cond_true] at hm
  have hbb := Nat.eq_of_beq_eq_true hbb
  subst hbb
  obtain ⟨s2, hs2', hm5⟩ := bnd_some hm
  obtain ⟨frB, e3, hm6⟩ := bnd_some hm5
  have hm7 := Option.some.inj hm6
  rw [codeB_eq] at hsx
  rw [codesB_eq] at hs2'
  refine code_ok hc hmix L body (st := ⟨frM, st.h⟩) S5.hr (G0.wstep S5) F5 hsx ?_
  intro φ6 w6 a6 s6 f6 d6
  show Exit.inBlock b _ (.exit b) a6 w6
  simp only [Exit.inBlock, if_pos]
  have S6 := S5.trans H0 s6.toWStep
  refine spineC_ok hc hmix rs2 (st := s) hne2 S6.hr (G0.wstep S6) f6 hs2' ?_
  intro φ7 w7 a7 s7 f7 d7
  have FB : FR N φ7 w7 st2.fr a7 := by
    rw [← hm7]
    exact f7.any e3 (fun t ht => by have := (List.mem_filter.1 ht).1; exact List.mem_range.1 this)
  have S7 : WStep 0 noEmb noHeap w φ7 st2.h w7 := by
    rw [← hm7]
    exact (S6.trans H0 s7.toWStep).gc
  refine wp_block (wp_loop_rounds (l2.length + 1) (rounds_ok hc hmix ho2' FB.out H0 G0 l2 [] hs2 S7 rfl FB ?_))
  intro w8 a8 tgt8 htgt8 S8 F8 d8
  unfold endR at hend
  simp only [ho2', htgt8] at hend
  split at hend
  · cases hend
  rename_i x sx hsx2
  cases x with
  | normal => cases hend
  | ret => cases hend
  | exit b2 =>
  simp only [Bool.and_eq_true] at hend
  obtain ⟨hbb, hend⟩ := hend
  have hbb := Nat.eq_of_beq_eq_true hbb
  subst hbb
  split at hend
  · cases hend
  rename_i s9 hs9
  split at hend
  case h_2 => cases hend
  rename_i bb hg
  subst hend
  rw [codeB_eq] at hsx2
  rw [codesB_eq] at hs9
  refine code_ok hc hmix L body2 (st := ⟨tgt8, st2.h⟩) S8.hr (G0.wstep S8) F8 hsx2 ?_
  intro φ9 w9 a9 q9 f9 d9
  show Exit.inBlock b2 _ (.exit b2) a9 w9
  simp only [Exit.inBlock, if_pos]
  show Code.wp P (.seq c9 .ret) _ a9 w9
  unfold codesA at hs9
  split at hs9
  case h_2 => cases hs9
  rename_i s3 hs3
  simp only [codesA, Option.some.injEq] at hs9
  subst hs9
  refine wp_seq (code_ok hc hmix L c9 q9.hr (G0.wstep (S8.trans H0 q9.toWStep)) f9 hs3 ?_)
  intro φa wa aa sa fa da
  refine wp_ret ?_
  have hr : mapO (resA P s3.h s3.fr) fn.results.toList = some [.bool true] := by
    rw [hres]
    simp only [mapO, resA, hg, liveV, Option.bind_some]
  obtain ⟨u, m1, m2⟩ := results_ok sa.hr fa hr
  have hu : u = .bool true := by
    have m2' : VR φa wa (.bool true) u := m2
    cases m2'; rfl
  exact ⟨by rw [da, d9, d8, d7, d6, d5, d4], u, m1, by rw [hu], ((S8.trans H0 q9.toWStep).trans H0 sa.toWStep).below⟩
end
end Go.Vai
/- The abstract machine: going on from a state that is told anew: less is told of it, the world is where it was. -/
namespace Go.Vai
set_option linter.unusedVariables false
set_option linter.unusedSimpArgs false
set_option linter.unusedSectionVars false
def sameN (x y : Nat × AV) : Bool := Nat.beq x.1 y.1 && sameV x.2 y.2
def onOb (x y : Option AObj) : Bool :=
  match x with
  | none => true
  | some (.cells ro gen cs) => (match y with | some (.cells ro2 gen2 cs2) => (ro == ro2 && Nat.beq gen gen2) && Tr.sub sameN cs cs2 | _ => false)
  | some (.map es) => (match y with | some (.map es2) => sameE es es2 | _ => false)
  | _ => false
/-- all that the one memory tells stands in the other, alike -/
def onB (h2 h1 : Heap) : Bool := Nat.beq h1.next h2.next && (List.range h2.next).all fun b => onOb (h2.objs.get b) (h1.objs.get b)
structure On (h2 h1 : Heap) : Prop where
  next : h1.next = h2.next
  cells : ∀ b ro gen cs, h2.objs.get b = some (.cells ro gen cs) → ∃ cs1, h1.objs.get b = some (.cells ro gen cs1) ∧ ∀ i lo v, cs.get i = some (lo, v) → cs1.get i = some (lo, v)
  other : ∀ b x, h2.objs.get b = some x → isCells x = false → h1.objs.get b = some x
theorem onB_ok {h1 h2 : Heap} (hf : ∀ b, h2.next ≤ b → h2.objs.get b = none) (e : onB h2 h1 = true) : On h2 h1 := by
  letI : Lane := Lane.some
  unfold onB at e
  simp only [Bool.and_eq_true, Nat.beq_eq] at e
  obtain ⟨e0, e⟩ := e
  have key : ∀ b x, h2.objs.get b = some x → onOb (some x) (h1.objs.get b) = true := by
    intro b x hx
    have hb : b < h2.next := by
      rcases Nat.lt_or_ge b h2.next with q | q
      · exact q
      · rw [hf b q] at hx; cases hx
    have := List.all_eq_true.1 e b (List.mem_range.2 hb)
    rwa [hx] at this
  refine ⟨e0, ?_, ?_⟩
  · intro b ro gen cs hx
    have q := key b _ hx
    unfold onOb at q
    simp only at q
    split at q
    case h_2 => cases q
    rename_i ro2 gen2 cs2 hy
    simp only [Bool.and_eq_true, beq_iff_eq, Nat.beq_eq] at q
    obtain ⟨⟨rfl, rfl⟩, q⟩ := q
    refine ⟨cs2, hy, fun i lo v hi => ?_⟩
    obtain ⟨y, k1, k2⟩ := Tr.sub_get q hi
    unfold sameN at k2
    simp only [Bool.and_eq_true, Nat.beq_eq] at k2
    obtain ⟨k2, k3⟩ := k2
    have k3 := sameV_eq k3
    rw [k1]
    obtain ⟨y1, y2⟩ := y
    simp only at k2 k3
    rw [k2, k3]
  · intro b x hx hnc
    have q := key b _ hx
    unfold onOb at q
    cases x with
    | cells => cases hnc
    | iter => cases q
    | viter => cases q
    | mapit => cases q
    | miter => cases q
    | map es =>
      simp only at q
      split at q
      case h_2 => cases q
      rename_i es2 hy
      obtain ⟨q1, q2⟩ := sameE_eq q
      subst q1
      exact hy
/-- a frame of which less is told, further on -/
def onF (N : Nat) (tgt s : Fr) : Bool := (List.range N).all fun t =>
  match tgt.get t with
  | none => (s.get t).isNone
  | some .any => true
  | some v => (match s.get t with | some v1 => sameV v v1 | none => false)
section
variable [Lane]
variable {P : Program} {base : Nat} {φ φ' φ'' φ0 : Emb} {h h' h'' h0 : Heap} {w w' w'' w0 : World}
theorem HR.on {h1 h2 : Heap} (hf : ∀ b, h2.next ≤ b → h2.objs.get b = none) (q : On h2 h1) (H : HR base φ h1 w) : HR base φ h2 w := by
  refine ⟨fun b hb => ⟨hf b hb, (H.fresh b (by rw [q.next]; exact hb)).2⟩, H.low, H.range, H.inj, ?_, ?_, ?_⟩
  · intro b ro gen cs e i lo v hi
    obtain ⟨cs1, k1, k2⟩ := q.cells b ro gen cs e
    exact H.los b ro gen cs1 k1 i lo v (k2 i lo v hi)
  · intro b ro gen cs g c e1 e2
    obtain ⟨cs1, k1, k2⟩ := q.cells b ro gen cs e1
    obtain ⟨p1, p2, p3, arr, t, fz, pa, pf, pk⟩ := H.cells b ro gen cs1 g c k1 e2
    exact ⟨p1, p2, fun i lo v hi => p3 i lo v (k2 i lo v hi), arr, t, fz, pa, pf, fun i lo v hi => pk i lo v (k2 i lo v hi)⟩
  · intro b x g c e1 hx e2
    exact H.other b x g c (q.other b x e1 hx) hx e2
theorem On.some {h1 h2 : Heap} (q : On h2 h1) {b : Nat} (e : wr (h2.objs.get b) = true) : wr (h1.objs.get b) = true := by
  cases hx : h2.objs.get b with
  | none => rw [hx] at e; cases e
  | some x =>
    cases x with
    | cells ro gen cs => obtain ⟨cs1, k1, _⟩ := q.cells b ro gen cs hx; rw [k1]; rw [hx] at e; cases ro <;> first | rfl | cases e
    | iter => rw [q.other b _ hx rfl]; rfl
    | viter => rw [q.other b _ hx rfl]; rfl
    | mapit => rw [q.other b _ hx rfl]; rfl
    | miter => rw [q.other b _ hx rfl]; rfl
    | map es => rw [q.other b _ hx rfl]; rfl
theorem WStep.on {h1 h2 : Heap} (hf : ∀ b, h2.next ≤ b → h2.objs.get b = none) (q : On h2 h1) (s : WStep base φ h w φ' h1 w') : WStep base φ h w φ' h2 w' :=
  ⟨s.hr.on hf q, s.ext, s.rows, s.kept, s.newer, by rw [← q.next]; exact s.next, fun b hb k => s.known b hb (q.some k)⟩
theorem FR.on {N : Nat} {s tgt : Fr} {a : Act} (f : FR N φ w s a) (ht : ∀ t, N ≤ t → tgt.get t = none) (e : onF N tgt s = true) : FR N φ w tgt a := by
  refine ⟨f.size, fun t htN => ?_, ht⟩
  have q := List.all_eq_true.1 e t (List.mem_range.2 htN)
  have g := f.get t htN
  cases hx : tgt.get t with
  | none =>
    rw [hx] at q
    simp only [Option.isNone_iff_eq_none] at q
    rw [q] at g
    exact g
  | some v =>
    rw [hx] at q
    by_cases ha : v = .any
    · subst ha; exact .inl rfl
    · have q' : (match s.get t with | some v1 => sameV v v1 | none => false) = true := by
        cases v <;> first | exact absurd rfl ha | exact q
      split at q'
      · rename_i v1 hv1
        have := sameV_eq q'
        subst this
        rw [hv1] at g
        exact g
      · cases q'
end
/-! states that are told -/
structure LS where
  told : List (Nat × AV)
  next : Nat
  rows : List (Nat × AObj)
def litT : List (Nat × AObj) → Tr AObj → Tr AObj
  | [], r => r
  | p :: l, r => match r.set p.1 p.2 with | some r' => litT l r' | none => litT l r
def litCr : List (Nat × Nat × AV) → Tr (Nat × AV) → Tr (Nat × AV)
  | [], r => r
  | p :: l, r => match r.set p.1 p.2 with | some r' => litCr l r' | none => litCr l r
def litC (l : List (Nat × Nat × AV)) : Tr (Nat × AV) := litCr l .nil
def litH (s : LS) : Heap := ⟨s.next, litT s.rows .nil⟩
def litF (N : Nat) (s : LS) : Option Fr := bnd (anyFr (List.range N) .nil) (setAll s.told)
def LS.fits (s : LS) (N : Nat) : Bool := (s.told.all fun p => Nat.blt p.1 N) && (s.rows.all fun p => Nat.blt p.1 s.next)
/-- pieces are done from a state; what is left is told anew -/
def goB (P : Program) (cl : CallT) (L N : Nat) (rs : List Code) (fr : Fr) (h : Heap) (s2 : LS) : Bool :=
  s2.fits N && (match codesB P cl L N rs fr h with
    | none => false
    | some s => (match litF N s2 with
      | none => false
      | some fr2 => onB (litH s2) s.h && onF N fr2 s.fr))
def goR (P : Program) (cl : CallT) (L N : Nat) (rs : List Code) (s s2 : LS) : Bool :=
  match litF N s with
  | none => false
  | some fr => goB P cl L N rs fr (litH s) s2
def goS (P : Program) (cl : CallT) (L N : Nat) (rs : List Code) (args : List AV) (s2 : LS) : Bool :=
  match argsF 0 args .nil with
  | none => false
  | some fr => goB P cl L N rs fr noHeap s2
def goE (P : Program) (cl : CallT) (L N : Nat) (re : List Code) (t2 : Nat) (s : LS) : Bool :=
  match litF N s with
  | none => false
  | some fr => (match codesB P cl L N re fr (litH s) with
    | none => false
    | some s2 => (match s2.fr.get t2 with | some (.bool b) => b | _ => false))
section
variable [Lane]
variable {P : Program} {base : Nat} {φ φ' φ'' φ0 : Emb} {h h' h'' h0 : Heap} {w w' w'' w0 : World}
theorem litT_get : ∀ {l : List (Nat × AObj)} {r : Tr AObj} {b : Nat} {x : AObj}, (litT l r).get b = some x → r.get b = some x ∨ ∃ p ∈ l, p.1 = b
  | [], r, b, x, e => .inl e
  | p :: l, r, b, x, e => by
    unfold litT at e
    split at e
    · rename_i r' hr
      rcases litT_get e with q | ⟨p', q1, q2⟩
      · rw [Tr.get_set hr] at q
        by_cases k : b = p.1
        · exact .inr ⟨p, by simp, k.symm⟩
        · rw [if_neg k] at q; exact .inl q
      · exact .inr ⟨p', by simp [q1], q2⟩
    · rcases litT_get e with q | ⟨p', q1, q2⟩
      · exact .inl q
      · exact .inr ⟨p', by simp [q1], q2⟩
theorem litH_fresh {s : LS} {N : Nat} (e : s.fits N = true) : ∀ b, (litH s).next ≤ b → (litH s).objs.get b = none := by
  intro b hb
  unfold LS.fits at e
  simp only [Bool.and_eq_true] at e
  cases hx : (litH s).objs.get b with
  | none => rfl
  | some x =>
    rcases litT_get hx with q | ⟨p, q1, q2⟩
    · rw [Tr.get_nil] at q; cases q
    · have := Nat.le_of_ble_eq_true (List.all_eq_true.1 e.2 p q1)
      have hb' : s.next ≤ b := hb
      omega
theorem anyFr_out {l : List Nat} {fr fr' : Fr} {N : Nat} (e : anyFr l fr = some fr') (hl : ∀ t ∈ l, t < N) (h : ∀ t, N ≤ t → fr.get t = none) : ∀ t, N ≤ t → fr'.get t = none := by
  intro t ht
  rcases anyFr_get e t with ⟨_, q⟩ | q
  · have := hl t q; omega
  · rw [q]; exact h t ht
theorem litF_out {s : LS} {N : Nat} {fr : Fr} (e : litF N s = some fr) (hf : s.fits N = true) : ∀ t, N ≤ t → fr.get t = none := by
  unfold litF at e
  obtain ⟨f1, e1, e2⟩ := bnd_some e
  unfold LS.fits at hf
  simp only [Bool.and_eq_true] at hf
  exact setAll_out e2 hf.1 (anyFr_out e1 (fun t ht => List.mem_range.1 ht) (fun t _ => Tr.get_nil t))
theorem go_ok {cl : CallT} {L N : Nat} (hc : CallOk P 0 glN cl) (hmix : P.follows .mixedOrders = true) {Q : Exit → Act → World → Prop} {rs : List Code} {X : Code} {fr : Fr} {s2 : LS} (e : goB P cl L N rs fr h s2 = true)
    (H0 : HR 0 φ0 h0 w0) (G0 : GlobOk glN φ0 w0) (S : WStep 0 φ0 h0 w0 φ h w) {a : Act} (F : FR N φ w fr a)
    (k : ∀ φ' w' a' fr2, litF N s2 = some fr2 → WStep 0 φ0 h0 w0 φ' (litH s2) w' → FR N φ' w' fr2 a' → a'.defers = a.defers → X.wp P Q a' w') : (chainC rs X).wp P Q a w := by
  unfold goB at e
  simp only [Bool.and_eq_true] at e
  obtain ⟨hfit, e⟩ := e
  split at e
  · cases e
  rename_i s hs
  split at e
  · cases e
  rename_i fr2 hfr2
  simp only [Bool.and_eq_true] at e
  rw [codesB_eq] at hs
  refine chainC_ok hc hmix rs (st := ⟨fr, h⟩) S.hr (G0.wstep S) F hs ?_
  intro φ' w' a' s' f' d
  have hf := litH_fresh hfit
  exact k φ' w' a' fr2 hfr2 ((S.trans H0 s'.toWStep).on hf (onB_ok hf e.1)) (f'.on (litF_out hfr2 hfit) e.2) d
def GoOk (P : Program) (cl : CallT) (L N : Nat) : LS → List (List Code × LS) → Prop
  | _, [] => True
  | s, (rs, s2) :: l => goR P cl L N rs s s2 = true ∧ GoOk P cl L N s2 l
def lastS : LS → List (List Code × LS) → LS
  | s, [] => s
  | _, (_, s2) :: l => lastS s2 l
def chainL : List (List Code × LS) → Code → Code
  | [], X => X
  | (rs, _) :: l, X => chainC rs (chainL l X)
theorem gos_ok {cl : CallT} {L N : Nat} (hc : CallOk P 0 glN cl) (hmix : P.follows .mixedOrders = true) {Q : Exit → Act → World → Prop} {X : Code} (H0 : HR 0 φ0 h0 w0) (G0 : GlobOk glN φ0 w0) : ∀ (l : List (List Code × LS)) {s : LS} {φ : Emb} {w : World} {a : Act} {fr : Fr}, GoOk P cl L N s l →
    litF N s = some fr → WStep 0 φ0 h0 w0 φ (litH s) w → FR N φ w fr a →
    (∀ φ' w' a' fr2, litF N (lastS s l) = some fr2 → WStep 0 φ0 h0 w0 φ' (litH (lastS s l)) w' → FR N φ' w' fr2 a' → a'.defers = a.defers → X.wp P Q a' w') → (chainL l X).wp P Q a w
  | [], s, φ, w, a, fr, _, hfr, S, F, k => k φ w a fr hfr S F rfl
  | (rs, s2) :: l, s, φ, w, a, fr, e, hfr, S, F, k => by
    obtain ⟨e1, e2⟩ := e
    unfold goR at e1
    rw [hfr] at e1
    simp only at e1
    exact go_ok hc hmix e1 H0 G0 S F fun φ' w' a' fr2 q1 q2 q3 q4 => gos_ok hc hmix H0 G0 l e2 q1 q2 q3 fun φ2 w2 a2 f2 m1 m2 m3 m4 => k φ2 w2 a2 f2 m1 m2 m3 (m4.trans q4)
/-- a law that is pieces, each from a state that is told to one that is told -/
theorem law_go {cl : CallT} {L N : Nat} (hc : CallOk P 0 glN cl) (hmix : P.follows .mixedOrders = true) {f : FuncId} {fn : Func} {lb : Code} {rs re : List Code} {args : List AV} {us : Array Value} {t2 : Nat} {w : World}
    (hf : P.funcs[f]? = some fn) (hb : fn.body = some lb) (hN : fn.ntmps = N) (hres : fn.results.toList = [.tmp t2]) {s1 : LS} {l : List (List Code × LS)} (hlb : lb = chainC rs (chainL l (chainC re .ret)))
    (G0 : GlobOk glN noEmb w) (hargs : All2 (VR noEmb w) args us.toList) (hlen : args.length ≤ N) (h1 : goS P cl L N rs args s1 = true) (hs : GoOk P cl L N s1 l) (hend : goE P cl L N re t2 (lastS s1 l) = true) :
    Calls P f us w fun e w' => e = .returned (.bool true) ∧ (w'.os = w.os ∧ w'.tape = w.tape ∧ w'.output = w.output ∧ w.heap.size ≤ w'.heap.size ∧ ∀ k, k < w.heap.size → w'.heap[k]? = w.heap[k]?) := by
  unfold goS at h1
  split at h1
  · cases h1
  rename_i fr0 e0
  rw [argsF_eq] at e0
  refine calls_of_wp hf hb ?_
  rw [hN, hlb]
  have H0 : HR 0 noEmb noHeap w := HR.empty w
  have F0 := FR.start (N := N) e0 hargs hlen
  refine go_ok hc hmix h1 H0 G0 (Step.refl H0).toWStep F0 ?_
  intro φ1 w1 a1 fr1 hfr1 S1 F1 d1
  refine gos_ok hc hmix H0 G0 l hs hfr1 S1 F1 ?_
  intro φ2 w2 a2 fr2 hfr2 S2 F2 d2
  unfold goE at hend
  rw [hfr2] at hend
  simp only at hend
  split at hend
  · cases hend
  rename_i s3 hs3
  split at hend
  case h_2 => cases hend
  rename_i bb hg
  subst hend
  rw [codesB_eq] at hs3
  refine chainC_ok hc hmix re (st := ⟨fr2, litH (lastS s1 l)⟩) S2.hr (G0.wstep S2) F2 hs3 ?_
  intro φ3 w3 a3 s5 f3 d3
  refine wp_ret ?_
  have hr : mapO (resA P s3.h s3.fr) fn.results.toList = some [.bool true] := by
    rw [hres]
    simp only [mapO, resA, hg, liveV, Option.bind_some]
  obtain ⟨u, m1, m2⟩ := results_ok s5.hr f3 hr
  have hu : u = .bool true := by
    have m2' : VR φ3 w3 (.bool true) u := m2
    cases m2'; rfl
  exact ⟨by rw [d3, d2, d1], u, m1, by rw [hu], (S2.trans H0 s5.toWStep).below⟩
end
end Go.Vai
/- The abstract machine: functions whose answers are shown by hand (hooks): what leaves all that was there as it was, strings.Join, strings.Repeat. -/
namespace Go.Vai
set_option linter.unusedVariables false
set_option linter.unusedSimpArgs false
set_option linter.unusedSectionVars false
/-- one function's hook -/
def hkF (f : Nat) (g : List AV → Heap → Option (AV × Heap)) : HookT := fun f' args h => cond (Nat.beq f' f) (g args h) none
def hk2 (x y : HookT) : HookT := fun f args h => orHook (x f args h) (y f args h)
def strOf : AV → Option (List UInt8)
  | .str l => some l
  | _ => none
def joinA (args : List AV) (h : Heap) : Option (AV × Heap) :=
  match args with
  | [.slice (some a) n _ sz, .str sep] => cond (Nat.beq sz 1 && (Nat.blt 0 n && Nat.ble n 65536)) ((loadN h a 0 n).bind fun vs => (mapO strOf vs).bind fun ls => cond (Nat.ble (Lib.join ls sep).length 65536) (some (.str (Lib.join ls sep), h)) none) none
  | _ => none
def repeatA (args : List AV) (h : Heap) : Option (AV × Heap) :=
  match args with
  | [.str s, .int .i64 (.ofNat c)] => cond (Nat.ble c 65536 && Nat.ble s.length 65536) (some (.str (Lib.repeatL s c), h)) none
  | _ => none
section
variable [Lane]
variable {P : Program} {base : Nat} {φ φ' φ'' : Emb} {h h' h'' : Heap} {w w' w'' : World} {glob : Nat → Option AV}
theorem lt_of_heap {α : Type} {x : Array α} {k : Nat} {o : α} (e : x[k]? = some o) : k < x.size := by
  rcases Nat.lt_or_ge k x.size with q | q
  · exact q
  · rw [Array.getElem?_eq_none q] at e; cases e
/-- what was there is as it was: a step at which nothing is known anew -/
theorem below_step (H : HR base φ h w) (b : Go.RowKit.Below w.heap.size w w') : Step base φ h w φ h w' := by
  have rows : Rows w w' := by
    rintro cb n ⟨arr, t, fz, q1, q2, q3⟩
    exact ⟨arr, t, fz, (b.block cb (lt_of_heap q1)).trans q1, q2, q3⟩
  refine ⟨⟨⟨H.fresh, Nat.le_trans H.low b.size, fun x g c e => Nat.lt_of_lt_of_le (H.range x g c e) b.size, H.inj, H.los, ?_, ?_⟩, Ext.refl _, rows, ⟨b.os, b.tape, b.output, b.size, fun cb hlt _ => b.block cb hlt⟩, fun x g c e _ => ⟨g, c, e, rfl⟩, Nat.le_refl _, fun _ _ q => q⟩, fun x m n cur g c e1 e2 => ⟨b.block c.cb (H.range x g c e2), rfl⟩⟩
  · intro x ro gen cs g c e1 e2
    obtain ⟨q1, q2, q3, arr, t, fz, q4, q5, q6⟩ := H.cells x ro gen cs g c e1 e2
    refine ⟨q1, q2, q3, arr, t, fz, (b.block c.cb (H.range x g c e2)).trans q4, q5, ?_⟩
    intro i lo v k1 k2 k3 k4
    obtain ⟨u, r1, r2, r3⟩ := q6 i lo v k1 k2 k3 k4
    exact ⟨u, r1, r2.mono (Ext.refl _) rows, r3⟩
  · intro x y g c e1 e2 e3
    obtain ⟨q1, q2, o, q3, q4⟩ := H.other x y g c e1 e2 e3
    exact ⟨q1, q2, o, (b.block c.cb (H.range x g c e3)).trans q3, q4.mono (Ext.refl _) rows⟩
theorem hkF_ok {f : Nat} {g : List AV → Heap → Option (AV × Heap)} (hen : ∀ us w, (callFunc f us).run P w = .ok (.enter f us) w)
    (hg : ∀ args h r, g args h = some r → ∀ φ w (us : Array Value), HR base φ h w → GlobOk glob φ w → All2 (VR φ w) args us.toList → Calls P f us w (fun e w' => ∃ v φ', e = .returned v ∧ Step base φ h w φ' r.2 w' ∧ VR φ' w' r.1 v)) : CallOk P base glob (hkF f g) := by
  intro f' args h r e φ w us H G hl
  unfold hkF at e
  cases q : Nat.beq f' f with
  | false => rw [q] at e; cases e
  | true =>
    have q' := Nat.eq_of_beq_eq_true q
    subst q'
    rw [q, cond_true] at e
    exact .inl ⟨hen us w, hg args h r e φ w us H G hl⟩
theorem hk2_ok {x y : HookT} (hx : CallOk P base glob x) (hy : CallOk P base glob y) : CallOk P base glob (hk2 x y) := orHook_ok hx hy
theorem loadN_each {a : Loc} : ∀ (n j : Nat) (vs : List AV), loadN h a j n = some vs → vs.length = n ∧ ∀ (i : Nat) (v : AV), vs[i]? = some v → loadC h a (j + i) = some v
  | 0, j, vs, e => by
    simp only [loadN, Option.some.injEq] at e
    subst e
    exact ⟨rfl, fun i v q => by simp at q⟩
  | n + 1, j, vs, e => by
    simp only [loadN, Option.bind_eq_some_iff, Option.some.injEq] at e
    obtain ⟨v, hv, r, hr, rfl⟩ := e
    obtain ⟨k1, k2⟩ := loadN_each n (j + 1) r hr
    refine ⟨by simp [k1], fun i x q => ?_⟩
    cases i with
    | zero => simp at q; subst q; exact hv
    | succ i =>
      simp at q
      have := k2 i x q
      rwa [show j + 1 + i = j + (i + 1) by omega] at this
theorem strOf_all : ∀ {vs : List AV} {ls : List (List UInt8)}, mapO strOf vs = some ls → vs = ls.map AV.str
  | [], ls, e => by simp only [mapO, Option.some.injEq] at e; subst e; rfl
  | v :: vs, ls, e => by
    simp only [mapO, Option.bind_eq_some_iff, Option.some.injEq] at e
    obtain ⟨l, hl, r, hr, rfl⟩ := e
    rw [strOf_all hr]
    cases v <;> first | (cases hl; done) | skip
    cases hl
    rfl
theorem joinA_ok {f : Nat} (hen : ∀ us w, (callFunc f us).run P w = .ok (.enter f us) w)
    (hJ : ∀ (bk o c : Nat) (xs : List ByteArray) (sep : ByteArray) (w : World), (∀ (j : Nat) x, xs[j]? = some x → w.cell? ⟨bk, o + j, none⟩ = some (.string x)) → bk < w.heap.size → xs.length ≤ 140737488355328 → xs.length ≤ c → (Lib.join (xs.map (·.data.toList)) sep.data.toList).length ≤ 140737488355328 →
      Calls P f #[.slice (some ⟨bk, o, none⟩) xs.length c, .string sep] w fun e w' => e = .returned (.string ⟨(Lib.join (xs.map (·.data.toList)) sep.data.toList).toArray⟩) ∧ Go.RowKit.Below w.heap.size w w') : CallOk P base glob (hkF f joinA) := by
  refine hkF_ok hen ?_
  intro args h r e φ w us H G hl
  unfold joinA at e
  split at e
  case h_2 => cases e
  rename_i a n room sz sep
  cases hc : (Nat.beq sz 1 && (Nat.blt 0 n && Nat.ble n 65536)) with
  | false => rw [hc] at e; cases e
  | true =>
  rw [hc, cond_true] at e
  simp only [Bool.and_eq_true] at hc
  obtain ⟨h1, h2, h3⟩ := hc
  have h1 := Nat.eq_of_beq_eq_true h1
  have h2 := Nat.le_of_ble_eq_true h2
  have h3 := Nat.le_of_ble_eq_true h3
  subst h1
  simp only [Option.bind_eq_some_iff] at e
  obtain ⟨vs, hvs, ls, hls, e⟩ := e
  cases hb : Nat.ble (Lib.join ls sep).length 65536 with
  | false => rw [hb] at e; cases e
  | true =>
  rw [hb, cond_true] at e
  cases e
  have hb := Nat.le_of_ble_eq_true hb
  obtain ⟨us⟩ := us
  cases hl with
  | cons hs ht =>
  cases ht with
  | cons hsep ht =>
  cases ht
  cases hsep
  cases hs with
  | slice _ ad _ _ _ cap g1 g2 g3 g4 g5 =>
  rcases g5 with g5 | ⟨g5, arr, t', fz, g6, g7, g8⟩
  · omega
  obtain ⟨e1, e2⟩ := loadN_each _ _ _ hvs
  rw [strOf_all hls] at e1 e2
  rw [List.length_map] at e1
  have hxs : (ls.map (fun l => (⟨⟨l⟩⟩ : ByteArray))).map (·.data.toList) = ls := by
    rw [List.map_map]
    exact List.map_id' _
  have key := hJ ad.block ad.off cap (ls.map fun l => ⟨⟨l⟩⟩) ⟨⟨sep⟩⟩ w ?_ (lt_of_heap g6) (by rw [List.length_map]; omega) (by rw [List.length_map]; omega) (by rw [hxs]; exact Nat.le_trans hb (by decide))
  · rw [hxs, List.length_map, e1] at key
    have hform := g5.form
    rw [hform]
    refine key.mono ?_
    rintro _ w' ⟨rfl, hB⟩
    refine ⟨_, φ, rfl, below_step H hB, ?_⟩
    exact .str _
  · intro j x hx
    rw [List.getElem?_map, Option.map_eq_some_iff] at hx
    obtain ⟨l, hl, rfl⟩ := hx
    have hv := e2 j (.str l) (by rw [List.getElem?_map, hl]; rfl)
    obtain ⟨u, k1, k2, _⟩ := loadC_cell H g5 hv
    cases k2
    rw [g5.form, add_plain] at k1
    simpa using k1
theorem repeatA_ok {f : Nat} (hen : ∀ us w, (callFunc f us).run P w = .ok (.enter f us) w)
    (hR : ∀ (s : ByteArray) (c : Nat) (w : World), c ≤ 9223372036854775807 → s.size * c ≤ 140737488355328 →
      Calls P f #[.string s, .int .i64 c] w fun e w' => e = .returned (.string ⟨(Lib.repeatL s.data.toList c).toArray⟩) ∧ Go.RowKit.Below w.heap.size w w') : CallOk P base glob (hkF f repeatA) := by
  refine hkF_ok hen ?_
  intro args h r e φ w us H G hl
  unfold repeatA at e
  split at e
  case h_2 => cases e
  rename_i s c
  cases hc : (Nat.ble c 65536 && Nat.ble s.length 65536) with
  | false => rw [hc] at e; cases e
  | true =>
  rw [hc, cond_true] at e
  cases e
  simp only [Bool.and_eq_true] at hc
  have h1 := Nat.le_of_ble_eq_true hc.1
  have h2 := Nat.le_of_ble_eq_true hc.2
  obtain ⟨us⟩ := us
  cases hl with
  | cons hs ht =>
  cases ht with
  | cons hsep ht =>
  cases ht
  cases hsep
  cases hs
  have hm : s.length * c ≤ 65536 * 65536 := Nat.mul_le_mul h2 h1
  refine (hR ⟨⟨s⟩⟩ c w (by omega) (by show s.length * c ≤ _; omega)).mono ?_
  rintro _ w' ⟨rfl, hB⟩
  exact ⟨_, φ, rfl, below_step H hB, .str _⟩
end
end Go.Vai
/- The abstract machine: functions of a text that are answered by a table: each answer was turned once, from a memory that holds the text alone. -/
namespace Go.Vai
set_option linter.unusedVariables false
set_option linter.unusedSimpArgs false
set_option linter.unusedSectionVars false
/-- an answer: at these bytes, and these arguments more, these bytes come, and this number -/
structure Ent where
  bs : List AV
  rest : List AV
  out : List AV
  e : Int
def scalR : AV → Bool
  | .agg l => l.all scalar2
  | x => scalar2 x
def sameR : List AV → List AV → Bool
  | [], [] => true
  | x :: l, y :: m => sameV x y && sameR l m
  | _, _ => false
def findEnt (vs rest : List AV) : List Ent → Option Ent
  | [] => none
  | en :: l => bif sameR en.bs vs && sameR en.rest rest then some en else findEnt vs rest l
def rowOf (r : Nat × Heap) (n : Nat) (e : Int) : AV × Heap := (.tup [.slice (some ⟨r.1, 1, 0, n⟩) n n 1, .int .i64 e], r.2)
def ansEnt (h : Heap) (en : Ent) : Option (AV × Heap) :=
  match en.out with
  | [] => some (.tup [.slice none 0 0 0, .int .i64 en.e], h)
  | v :: l => (newRow1 h (v :: l)).map fun r => rowOf r (v :: l).length en.e
def tabA (es : List Ent) (args : List AV) (h : Heap) : Option (AV × Heap) :=
  match args with
  | .slice (some a) n _ sz :: rest => cond (Nat.beq sz 1 && Nat.blt 0 n) ((loadN h a 0 n).bind fun vs => (findEnt vs rest es).bind (ansEnt h)) none
  | _ => none
/-- the memory that holds one text, to be read -/
def textH (vs : List AV) : Option Heap := (fillTr 0 .nil 0 vs).bind fun cs => ((Tr.nil : Tr AObj).set 0 (.cells true 0 cs)).map fun os => ⟨1, os⟩
def bytesR (h : Heap) (n : Nat) (out : List AV) (e : Int) (r : Option (AV × Heap)) : Bool :=
  match r with
  | some (.tup [.slice a k _ sz, .int .i64 e'], h1) => (e' == e) && (match a with
    | none => (match out with | [] => true | _ => false)
    | some a => Nat.beq sz 1 && Nat.blt 0 k && Nat.beq k out.length && !Nat.beq a.b 0 && (match loadN h1 a 0 k with | some vs => sameR out vs | none => false))
  | _ => false
/-- one entry is right -/
def entB (call : HookT) (f : Nat) (en : Ent) : Bool :=
  en.rest.all scalR && en.bs.all scalar2 && en.out.all scalar2 && (match textH en.bs with
    | none => false
    | some hb => bytesR hb en.bs.length en.out en.e (call f (.slice (some ⟨0, 0, 0, en.bs.length⟩) en.bs.length en.bs.length 1 :: en.rest) hb))
section
variable [Lane]
variable {P : Program} {base : Nat} {φ φ' φ'' : Emb} {h h' h'' : Heap} {w w' w'' w0 : World} {glob : Nat → Option AV}
theorem sameR_eq : ∀ {l m : List AV}, sameR l m = true → l = m
  | [], [], _ => rfl
  | [], _ :: _, e => by simp [sameR] at e
  | _ :: _, [], e => by simp [sameR] at e
  | x :: l, y :: m, e => by
    simp only [sameR, Bool.and_eq_true] at e
    rw [sameV_eq e.1, sameR_eq e.2]
theorem findEnt_ok {vs rest : List AV} : ∀ {l : List Ent} {en : Ent}, findEnt vs rest l = some en → en ∈ l ∧ en.bs = vs ∧ en.rest = rest
  | [], en, e => by simp [findEnt] at e
  | x :: l, en, e => by
    unfold findEnt at e
    cases q : (sameR x.bs vs && sameR x.rest rest) with
    | true =>
      rw [q, cond_true] at e
      cases e
      simp only [Bool.and_eq_true] at q
      exact ⟨by simp, sameR_eq q.1, sameR_eq q.2⟩
    | false =>
      rw [q, cond_false] at e
      obtain ⟨k1, k2, k3⟩ := findEnt_ok e
      exact ⟨by simp [k1], k2, k3⟩
theorem scalR_VR {x : AV} {v : Value} (hs : scalR x = true) (k : VR φ w x v) : VR φ' w' x v := by
  have all : ∀ {l : List AV} {us : List Value}, l.all scalar2 = true → All2 (VR φ w) l us → All2 (VR φ' w') l us := by
    intro l us hl ha
    induction ha with
    | nil => exact .nil
    | cons hx ht ih =>
      simp only [List.all_cons, Bool.and_eq_true] at hl
      exact .cons (scalar2_VR hl.1 hx) (ih hl.2)
  have k0 := k
  cases k with
  | agg cs vs hcs => exact .agg cs vs (all hs hcs)
  | _ => exact scalar2_VR hs k0
theorem scalRs_VR {l : List AV} {us : List Value} (hl : l.all scalR = true) (ha : All2 (VR φ w) l us) : All2 (VR φ' w') l us := by
  induction ha with
  | nil => exact .nil
  | cons hx ht ih =>
    simp only [List.all_cons, Bool.and_eq_true] at hl
    exact .cons (scalR_VR hl.1 hx) (ih hl.2)
theorem scalar2_one {x : AV} (hs : scalar2 x = true) : oneCell x = true := by
  cases x <;> first | rfl | (simp [scalar2, scalar1] at hs; done)
/-- a block that has come since the step's start becomes known -/
theorem know_step (H0 : HR base φ h w0) (S : Step base φ h w0 φ h w) {cb co : Nat} (hnew : w0.heap.size ≤ cb) {vs : List AV} {r : Nat × Heap} (hr : newRow1 h vs = some r) {arr : Array Value} {t : TypeId} {fz : Nat × Nat} (ha : w.heap[cb]? = some (.cells arr t fz)) (hf : FzOk fz arr.size)
    (hs : vs.all scalar2 = true) (hc : ∀ (i : Nat) v, vs[i]? = some v → ∃ u, arr[co + i]? = some u ∧ ∃ φ1 w1, VR φ1 w1 v u) :
    r.1 = h.next ∧ Step base φ h w0 (addE φ h.next 1 ⟨cb, co, 0, vs.length⟩) r.2 w := by
  unfold newRow1 at hr
  simp only [Option.bind_eq_some_iff, Option.some.injEq] at hr
  obtain ⟨cs, h1, os, ho, rfl⟩ := hr
  obtain ⟨g1, g2⟩ := fillTr_get 1 vs .nil cs 0 h1
  refine ⟨rfl, ?_⟩
  have H := S.hr
  have hn : ∀ g, φ h.next g = none := (H.fresh h.next (Nat.le_refl _)).2
  have hext : Ext φ (addE φ h.next 1 ⟨cb, co, 0, vs.length⟩) := addE_ext (hn 1)
  have inv : ∀ b g c, addE φ h.next 1 ⟨cb, co, 0, vs.length⟩ b g = some c → (b = h.next ∧ g = 1 ∧ c = ⟨cb, co, 0, vs.length⟩) ∨ (b ≠ h.next ∧ φ b g = some c) := by
    intro b g c q
    unfold addE at q
    split at q
    · rename_i p; exact .inl ⟨p.1, p.2, (Option.some.inj q).symm⟩
    · exact .inr ⟨(by rintro rfl; rw [hn] at q; cases q), q⟩
  have hcell : ∀ i lo v, cs.get i = some (lo, v) → lo = 1 ∧ vs[i]? = some v := by
    intro i lo v hi
    rw [g1] at hi
    split at hi
    · simp only [Option.map_eq_some_iff, Prod.mk.injEq, Nat.sub_zero] at hi
      obtain ⟨v', k1, rfl, rfl⟩ := hi
      exact ⟨rfl, k1⟩
    · rw [Tr.get_nil] at hi; cases hi
  refine ⟨⟨⟨?_, H.low, ?_, ?_, ?_, ?_, ?_⟩, fun b g c e => hext b g c e, S.rows, S.kept, ?_, Nat.le_succ _, ?_⟩, ?_⟩
  · intro b hb
    have hb' : h.next + 1 ≤ b := hb
    refine ⟨by show os.get b = none; rw [Tr.get_set_ne ho (by omega)]; exact (H.fresh b (by omega)).1, fun g => ?_⟩
    unfold addE
    rw [if_neg (by omega)]; exact (H.fresh b (by omega)).2 g
  · intro b g c q
    rcases inv b g c q with ⟨_, _, rfl⟩ | ⟨_, q2⟩
    · exact lt_of_heap ha
    · exact H.range _ _ _ q2
  · intro b g c b' g' c' q q' ec
    rcases inv b g c q with ⟨rfl, rfl, rfl⟩ | ⟨_, q2⟩ <;> rcases inv b' g' c' q' with ⟨rfl, rfl, rfl⟩ | ⟨_, q2'⟩
    · exact ⟨rfl, rfl, rfl⟩
    · have := H0.range _ _ _ q2'; simp only at ec; omega
    · have := H0.range _ _ _ q2; simp only at ec; omega
    · exact H.inj _ _ _ _ _ _ q2 q2' ec
  · intro b ro gen cs' q1 i lo v hi
    have q1' : os.get b = some (.cells ro gen cs') := q1
    by_cases hne : b = h.next
    · subst hne
      rw [Tr.get_set_same ho] at q1'
      cases q1'; rw [(hcell i lo v hi).1]; exact Nat.le_refl _
    · rw [Tr.get_set_ne ho hne] at q1'; exact H.los _ _ _ _ q1' _ _ _ hi
  · intro b ro gen cs' g c q1 q2
    have q1' : os.get b = some (.cells ro gen cs') := q1
    rcases inv b g c q2 with ⟨rfl, rfl, rfl⟩ | ⟨hne, q3⟩
    · rw [Tr.get_set_same ho] at q1'
      cases q1'
      refine ⟨⟨Nat.le_refl _, rfl⟩, fun _ => Nat.le_trans H0.low hnew, fun i lo v hi => by rw [(hcell i lo v hi).1]; exact Nat.le_refl _, arr, t, fz, ha, fun _ => ⟨hf, fun z => by cases z⟩, ?_⟩
      intro i lo v hi _ _ hie
      obtain ⟨_, hv⟩ := hcell i lo v hi
      obtain ⟨u, p1, φ1, w1, p2⟩ := hc i v hv
      have hsv := List.all_eq_true.1 hs v (List.mem_of_getElem? hv)
      exact ⟨u, by simpa using p1, scalar2_VR hsv p2, scalar2_one hsv⟩
    · rw [Tr.get_set_ne ho hne] at q1'
      obtain ⟨p1, p2, p3, arr', t', fz', pa, pf, pk⟩ := H.cells _ _ _ _ _ _ q1' q3
      refine ⟨p1, p2, p3, arr', t', fz', pa, pf, ?_⟩
      intro i lo v hi hle hao hie
      obtain ⟨u, r1, r2, r3⟩ := pk i lo v hi hle hao hie
      exact ⟨u, r1, r2.mono hext (Rows.refl _), r3⟩
  · intro b y g c q1 hy q2
    have q1' : os.get b = some y := q1
    rcases inv b g c q2 with ⟨rfl, rfl, rfl⟩ | ⟨hne, q3⟩
    · rw [Tr.get_set_same ho] at q1'
      cases q1'; cases hy
    · rw [Tr.get_set_ne ho hne] at q1'
      obtain ⟨p1, p0, ob, p2, p3⟩ := H.other _ _ _ _ q1' hy q3
      exact ⟨p1, p0, ob, p2, p3.mono hext (Rows.refl _)⟩
  · intro b g c q hlt
    rcases inv b g c q with ⟨rfl, rfl, rfl⟩ | ⟨hne, q3⟩
    · simp only at hlt; omega
    · exact ⟨g, c, q3, rfl⟩
  · intro b hb q
    have : wr (os.get b) = true := q
    rwa [Tr.get_set_ne ho (by omega)] at this
  · intro b m n cur g c e1 e2
    obtain ⟨k1, k2⟩ := S.its b m n cur g c e1 e2
    refine ⟨k1, ?_⟩
    have := H0.below e2
    show os.get b = _
    rw [Tr.get_set_ne ho (by omega)]
theorem textH_get {vs : List AV} {hb : Heap} (e : textH vs = some hb) : hb.next = 1 ∧ (∃ cs, hb.objs.get 0 = some (.cells true 0 cs) ∧ ∀ i lo v, cs.get i = some (lo, v) → lo = 0 ∧ vs[i]? = some v) ∧ (∀ b, b ≠ 0 → hb.objs.get b = none) := by
  unfold textH at e
  simp only [Option.map_eq_some_iff, Option.bind_eq_some_iff] at e
  obtain ⟨cs, h1, os, h2, rfl⟩ := e
  obtain ⟨g1, g2⟩ := fillTr_get 0 vs .nil cs 0 h1
  refine ⟨rfl, ⟨cs, Tr.get_set_same h2, fun i lo v hi => ?_⟩, fun b hb => by show os.get b = none; rw [Tr.get_set_ne h2 hb]; exact Tr.get_nil b⟩
  rw [g1] at hi
  split at hi
  · simp only [Option.map_eq_some_iff, Prod.mk.injEq, Nat.sub_zero] at hi
    obtain ⟨v', k1, rfl, rfl⟩ := hi
    exact ⟨rfl, k1⟩
  · rw [Tr.get_nil] at hi; cases hi
def textE (cb co n : Nat) : Emb := fun b g => if b = 0 ∧ g = 0 then some ⟨cb, co, 0, n⟩ else none
theorem textE_inv {cb co n b g : Nat} {c : CL} (e : textE cb co n b g = some c) : b = 0 ∧ g = 0 ∧ c = ⟨cb, co, 0, n⟩ := by
  unfold textE at e
  split at e
  · rename_i k; exact ⟨k.1, k.2, (Option.some.inj e).symm⟩
  · cases e
/-- a view of the world that knows one text alone -/
theorem text_view (H : HR base φ h w) {vs : List AV} {hb : Heap} (et : textH vs = some hb) {cb co n : Nat} (hs : vs.all scalar2 = true) {arr : Array Value} {t : TypeId} {fz : Nat × Nat} (ha : w.heap[cb]? = some (.cells arr t fz))
    (hc : ∀ (i : Nat) v, vs[i]? = some v → ∃ u, arr[co + i]? = some u ∧ VR φ w v u) : HR base (textE cb co n) hb w := by
  obtain ⟨p1, ⟨cs0, p2, p3⟩, p4⟩ := textH_get et
  refine ⟨?_, H.low, ?_, ?_, ?_, ?_, ?_⟩
  · intro b hb'
    rw [p1] at hb'
    refine ⟨p4 b (by omega), fun g' => ?_⟩
    unfold textE
    rw [if_neg (by omega)]
  · intro b g' c' e
    obtain ⟨_, _, rfl⟩ := textE_inv e
    exact lt_of_heap ha
  · intro b g' c' b2 g2 c2 e e2 _
    obtain ⟨rfl, rfl, rfl⟩ := textE_inv e
    obtain ⟨rfl, rfl, rfl⟩ := textE_inv e2
    exact ⟨rfl, rfl, rfl⟩
  · intro b ro gen' cs' e i lo v hi
    by_cases k : b = 0
    · subst k; rw [p2] at e; cases e; rw [(p3 i lo v hi).1]; exact Nat.le_refl _
    · rw [p4 b k] at e; cases e
  · intro b ro gen' cs' g' c' e e2
    obtain ⟨rfl, rfl, rfl⟩ := textE_inv e2
    rw [p2] at e; cases e
    refine ⟨⟨Nat.le_refl _, rfl⟩, (fun z => by cases z), fun i lo v hi => by rw [(p3 i lo v hi).1]; exact Nat.le_refl _, arr, t, fz, ha, (fun z => by cases z), ?_⟩
    intro i lo v hi _ _ hin
    obtain ⟨_, hv⟩ := p3 i lo v hi
    obtain ⟨u, k1, k2⟩ := hc i v hv
    have hsv := List.all_eq_true.1 hs v (List.mem_of_getElem? hv)
    exact ⟨u, by simpa using k1, scalar2_VR hsv k2, scalar2_one hsv⟩
  · intro b x g' c' e hx e2
    obtain ⟨rfl, rfl, rfl⟩ := textE_inv e2
    rw [p2] at e; cases e; cases hx
/-- what a call that knew one text alone did: all that was there is as it was -/
theorem text_below {vs : List AV} {hb h1 : Heap} (et : textH vs = some hb) {cb co n : Nat} {φ1 : Emb} (S : Step base (textE cb co n) hb w φ1 h1 w') : Go.RowKit.Below w.heap.size w w' := by
  obtain ⟨p1, ⟨cs0, p2, p3⟩, p4⟩ := textH_get et
  refine ⟨S.kept.os, S.kept.tape, S.kept.output, S.kept.size, fun k hk => S.kept.block k hk fun b g c e1 e2 => ?_⟩
  obtain ⟨rfl, rfl, rfl⟩ := textE_inv e1
  rw [p2] at e2
  cases e2
theorem tabA_ok {call : HookT} {f : Nat} {es : List Ent} (hcall : CallOk P base glN call) (hes : ∀ en ∈ es, entB call f en = true) : CallOk P base glN (hkF f (tabA es)) := by
  intro f' args h r e φ w us H G hl
  unfold hkF at e
  cases q : Nat.beq f' f with
  | false => rw [q] at e; cases e
  | true =>
  have q' := Nat.eq_of_beq_eq_true q
  subst q'
  rw [q, cond_true] at e
  unfold tabA at e
  split at e
  case h_2 => cases e
  rename_i a n room sz rest
  cases hc : (Nat.beq sz 1 && Nat.blt 0 n) with
  | false => rw [hc] at e; cases e
  | true =>
  rw [hc, cond_true] at e
  simp only [Bool.and_eq_true] at hc
  have hsz := Nat.eq_of_beq_eq_true hc.1
  have hn0 := Nat.le_of_ble_eq_true hc.2
  subst hsz
  simp only [Option.bind_eq_some_iff] at e
  obtain ⟨vs, hvs, en, hen, e⟩ := e
  obtain ⟨hmem, rfl, rfl⟩ := findEnt_ok hen
  have hE := hes en hmem
  unfold entB at hE
  simp only [Bool.and_eq_true] at hE
  obtain ⟨⟨⟨e1, e2⟩, e3⟩, hE⟩ := hE
  split at hE
  · cases hE
  rename_i hb et
  cases hres : call f' (.slice (some ⟨0, 0, 0, en.bs.length⟩) en.bs.length en.bs.length 1 :: en.rest) hb with
  | none => rw [hres] at hE; cases hE
  | some res =>
  rw [hres] at hE
  obtain ⟨us⟩ := us
  cases hl with
  | cons hs ht =>
  rename_i us
  cases hs with
  | slice _ ad _ _ _ cap g1 g2 g3 g4 g5 =>
  rcases g5 with g5 | ⟨g5, arr, t, fz, g6, g7, g8⟩
  · omega
  obtain ⟨c, l1, l2, l3, rfl⟩ := g5
  obtain ⟨k1, k2⟩ := loadN_each _ _ _ hvs
  simp only at g6 g7
  have hcell : ∀ (i : Nat) v, en.bs[i]? = some v → ∃ u, arr[c.co + (a.i - c.ao) + i]? = some u ∧ VR φ w v u := by
    intro i v hv
    have := k2 i v hv
    obtain ⟨u, m1, m2, _⟩ := loadC_cell H ⟨c, l1, l2, l3, rfl⟩ this
    refine ⟨u, ?_, m2⟩
    rw [add_plain] at m1
    simp only [World.cell?, g6, Option.isSome_none, Bool.false_eq_true, if_false] at m1
    simpa using m1
  have Hb : HR base (textE c.cb (c.co + (a.i - c.ao)) n) hb w := text_view H et e2 g6 hcell
  have Gb : GlobOk glN (textE c.cb (c.co + (a.i - c.ao)) n) w := by
    refine ⟨(fun _ _ z => by cases z), fun p hp => ⟨(G.stat p hp).1, fun b g c' z => ?_⟩⟩
    obtain ⟨_, _, rfl⟩ := textE_inv z
    have := (G.stat p hp).2 a.b a.g c l1
    exact this
  have hL : LR (textE c.cb (c.co + (a.i - c.ao)) n) ⟨0, 0, 0, n⟩ ⟨c.cb, c.co + (a.i - c.ao), none⟩ := ⟨⟨c.cb, c.co + (a.i - c.ao), 0, n⟩, by unfold textE; rw [if_pos ⟨rfl, rfl⟩], rfl, Nat.le_refl _, by simp⟩
  have hA : All2 (VR (textE c.cb (c.co + (a.i - c.ao)) n) w) (.slice (some ⟨0, 0, 0, en.bs.length⟩) en.bs.length en.bs.length 1 :: en.rest) (Array.mk (Value.slice (some ⟨c.cb, c.co + (a.i - c.ao), none⟩) n cap :: us)).toList := by
    rw [k1]
    refine .cons (.slice _ _ n n 1 cap (Nat.le_refl _) (by omega) (by decide) (by simp) (.inr ⟨hL, arr, t, fz, g6, g7, g8⟩)) (scalRs_VR e1 ht)
  -- what comes of the call
  have fin : ∀ (v : Value) (φ1 : Emb) (w1 : World), Step base (textE c.cb (c.co + (a.i - c.ao)) n) hb w φ1 res.2 w1 → VR φ1 w1 res.1 v → ∃ φ', Step base φ h w φ' r.2 w1 ∧ VR φ' w1 r.1 v := by
    intro v φ1 w1 S hv
    have B := text_below et S
    have S0 := below_step H B
    obtain ⟨r1, h1⟩ := res
    unfold bytesR at hE
    split at hE
    case h_2 => cases hE
    rename_i a1 k room1 sz1 e1' h1' heq
    cases heq
    simp only [Bool.and_eq_true, beq_iff_eq] at hE
    obtain ⟨rfl, hE⟩ := hE
    cases hv with
    | tup _ ts hts =>
    cases hts with
    | cons hsl hts =>
    cases hts with
    | cons hint hts =>
    cases hts
    cases hint
    unfold ansEnt at e
    cases a1 with
    | none =>
      simp only at hE
      cases ho : en.out with
      | cons v l => rw [ho] at hE; cases hE
      | nil =>
      rw [ho] at e
      cases e
      cases hsl
      exact ⟨φ, S0, .tup _ _ (.cons .nilSlice (.cons (.int _ _) .nil))⟩
    | some a1 =>
      simp only [Bool.and_eq_true, Nat.beq_eq, Bool.not_eq_true', Nat.blt_eq] at hE
      obtain ⟨⟨⟨⟨rfl, hk0⟩, hk⟩, hab⟩, hld⟩ := hE
      have hab' : a1.b ≠ 0 := by
        intro z
        rw [z] at hab
        cases hab
      split at hld
      case h_2 => cases hld
      rename_i vs1 hvs1
      have hvs1e := sameR_eq hld
      subst hvs1e
      cases ho : en.out with
      | nil => rw [ho] at hk; simp at hk; omega
      | cons v0 l0 =>
      rw [ho] at e
      simp only [Option.map_eq_some_iff] at e
      obtain ⟨rr, hrr, rfl⟩ := e
      rw [← ho] at hrr ⊢
      cases hsl with
      | slice _ ad1 _ _ _ cap1 z1 z2 z3 z4 z5 =>
      rcases z5 with z5 | ⟨z5, arr1, t1, fz1, z6, z7, z8⟩
      · omega
      obtain ⟨n1, n2⟩ := loadN_each _ _ _ hvs1
      obtain ⟨c1, y1, y2, y3, y4⟩ := id z5
      have hnew : w.heap.size ≤ ad1.block := by
        rcases Nat.lt_or_ge ad1.block w.heap.size with z | z
        · obtain ⟨g0, c0, x1, x2⟩ := S.newer _ _ _ y1 (by rw [y4] at z; exact z)
          obtain ⟨x, _⟩ := textE_inv x1
          exact absurd x hab'
        · exact z
      obtain ⟨m1, m2⟩ := know_step H S0 (cb := ad1.block) (co := ad1.off) hnew hrr z6 z8 e3 (fun i v hv => by
        obtain ⟨u, x1, x2, _⟩ := loadC_cell S.hr z5 (n2 i v hv)
        rw [z5.form, add_plain] at x1
        simp only [World.cell?, z6, Option.isSome_none, Bool.false_eq_true, if_false] at x1
        exact ⟨u, by simpa using x1, φ1, w1, x2⟩)
      refine ⟨_, m2, ?_⟩
      have hadf : ad1 = ⟨ad1.block, ad1.off, none⟩ := z5.form
      refine .tup _ _ (.cons ?_ (.cons (.int _ _) .nil))
      rw [hk, m1]
      refine .slice _ ad1 _ _ 1 cap1 (Nat.le_refl _) (by omega) (by decide) (by simp) (.inr ⟨⟨_, addE_same _ _ _ _, rfl, Nat.le_refl _, ?_⟩, arr1, t1, fz1, z6, z7, z8⟩)
      rw [hadf]; simp
  rcases hcall f' _ hb res hres _ w _ Hb Gb hA with ⟨c1, c2⟩ | ⟨v, φ1, w1, c1, s, hv⟩
  · refine .inl ⟨c1, c2.mono ?_⟩
    rintro _ w1 ⟨v, φ1, rfl, s, hv⟩
    obtain ⟨φ', x1, x2⟩ := fin v φ1 w1 s hv
    exact ⟨v, φ', rfl, x1, x2⟩
  · obtain ⟨φ', x1, x2⟩ := fin v φ1 w1 s hv
    exact .inr ⟨v, φ', w1, c1, x1, x2⟩
end
end Go.Vai
/- The abstract machine: a law that is run whole. -/
namespace Go.Vai
set_option linter.unusedVariables false
set_option linter.unusedSimpArgs false
set_option linter.unusedSectionVars false
def runB (P : Program) (cl : CallT) (L N : Nat) (c : Code) (t2 : Nat) (args : List AV) : Bool :=
  match argsF 0 args .nil with
  | none => false
  | some fr => (match (codeB P glN L N c).f cl fr noHeap with
    | some (.ret, s) => (match s.fr.get t2 with | some (.bool b) => b | _ => false)
    | _ => false)
theorem law_run [Lane] {P : Program} {cl : CallT} {L N : Nat} (hc : CallOk P 0 glN cl) (hmix : P.follows .mixedOrders = true) {f : FuncId} {fn : Func} {lb : Code} {args : List AV} {us : Array Value} {t2 : Nat} {w : World}
    (hf : P.funcs[f]? = some fn) (hb : fn.body = some lb) (hN : fn.ntmps = N) (hres : fn.results.toList = [.tmp t2]) (G0 : GlobOk glN noEmb w) (hargs : All2 (VR noEmb w) args us.toList) (hlen : args.length ≤ N) (e : runB P cl L N lb t2 args = true) :
    Calls P f us w fun e w' => e = .returned (.bool true) ∧ (w'.os = w.os ∧ w'.tape = w.tape ∧ w'.output = w.output ∧ w.heap.size ≤ w'.heap.size ∧ ∀ k, k < w.heap.size → w'.heap[k]? = w.heap[k]?) := by
  unfold runB at e
  split at e
  · cases e
  rename_i fr0 e0
  rw [argsF_eq] at e0
  split at e
  case h_2 => cases e
  rename_i s hs
  split at e
  case h_2 => cases e
  rename_i bb hg
  subst e
  rw [codeB_eq] at hs
  refine calls_of_wp hf hb ?_
  rw [hN]
  have H0 : HR 0 noEmb noHeap w := HR.empty w
  have F0 := FR.start (N := N) e0 hargs hlen
  refine code_ok hc hmix L lb (st := ⟨fr0, noHeap⟩) H0 G0 F0 hs ?_
  intro φ' w' a' s' f' d
  have hr : mapO (resA P s.h s.fr) fn.results.toList = some [.bool true] := by
    rw [hres]
    simp only [mapO, resA, hg, liveV, Option.bind_some]
  obtain ⟨u, m1, m2⟩ := results_ok s'.hr f' hr
  have hu : u = .bool true := by
    have m2' : VR φ' w' (.bool true) u := m2
    cases m2'; rfl
  exact ⟨by rw [d], u, m1, by rw [hu], s'.toWStep.below⟩
end Go.Vai
/- The abstract machine: functions of a text that answer numbers, by a table. -/
namespace Go.Vai
set_option linter.unusedVariables false
set_option linter.unusedSimpArgs false
set_option linter.unusedSectionVars false
structure EntI where
  bs : List AV
  rest : List AV
  res : List AV
def findEntI (vs rest : List AV) : List EntI → Option EntI
  | [] => none
  | en :: l => bif sameR en.bs vs && sameR en.rest rest then some en else findEntI vs rest l
def tabI (es : List EntI) (args : List AV) (h : Heap) : Option (AV × Heap) :=
  match args with
  | .slice (some a) n _ sz :: rest => cond (Nat.beq sz 1 && Nat.blt 0 n) ((loadN h a 0 n).bind fun vs => (findEntI vs rest es).map fun en => (.tup en.res, h)) none
  | _ => none
def entI (call : HookT) (f : Nat) (en : EntI) : Bool :=
  en.rest.all scalR && en.bs.all scalar2 && en.res.all scalR && (match textH en.bs with
    | none => false
    | some hb => (match call f (.slice (some ⟨0, 0, 0, en.bs.length⟩) en.bs.length en.bs.length 1 :: en.rest) hb with
      | some (.tup l, _) => sameR en.res l
      | _ => false))
section
variable [Lane]
variable {P : Program} {base : Nat} {φ φ' φ'' : Emb} {h h' h'' : Heap} {w w' w'' w0 : World} {glob : Nat → Option AV}
theorem findEntI_ok {vs rest : List AV} : ∀ {l : List EntI} {en : EntI}, findEntI vs rest l = some en → en ∈ l ∧ en.bs = vs ∧ en.rest = rest
  | [], en, e => by simp [findEntI] at e
  | x :: l, en, e => by
    unfold findEntI at e
    cases q : (sameR x.bs vs && sameR x.rest rest) with
    | true =>
      rw [q, cond_true] at e
      cases e
      simp only [Bool.and_eq_true] at q
      exact ⟨by simp, sameR_eq q.1, sameR_eq q.2⟩
    | false =>
      rw [q, cond_false] at e
      obtain ⟨k1, k2, k3⟩ := findEntI_ok e
      exact ⟨by simp [k1], k2, k3⟩
theorem tabI_ok {call : HookT} {f : Nat} {es : List EntI} (hcall : CallOk P base glN call) (hes : ∀ en ∈ es, entI call f en = true) : CallOk P base glN (hkF f (tabI es)) := by
  intro f' args h r e φ w us H G hl
  unfold hkF at e
  cases q : Nat.beq f' f with
  | false => rw [q] at e; cases e
  | true =>
  have q' := Nat.eq_of_beq_eq_true q
  subst q'
  rw [q, cond_true] at e
  unfold tabI at e
  split at e
  case h_2 => cases e
  rename_i a n room sz rest
  cases hc : (Nat.beq sz 1 && Nat.blt 0 n) with
  | false => rw [hc] at e; cases e
  | true =>
  rw [hc, cond_true] at e
  simp only [Bool.and_eq_true] at hc
  have hsz := Nat.eq_of_beq_eq_true hc.1
  have hn0 := Nat.le_of_ble_eq_true hc.2
  subst hsz
  simp only [Option.bind_eq_some_iff, Option.map_eq_some_iff] at e
  obtain ⟨vs, hvs, en, hen, rfl⟩ := e
  obtain ⟨hmem, rfl, rfl⟩ := findEntI_ok hen
  have hE := hes en hmem
  unfold entI at hE
  simp only [Bool.and_eq_true] at hE
  obtain ⟨⟨⟨e1, e2⟩, e3⟩, hE⟩ := hE
  split at hE
  · cases hE
  rename_i hb et
  cases hres : call f' (.slice (some ⟨0, 0, 0, en.bs.length⟩) en.bs.length en.bs.length 1 :: en.rest) hb with
  | none => rw [hres] at hE; cases hE
  | some res =>
  rw [hres] at hE
  obtain ⟨us⟩ := us
  cases hl with
  | cons hs ht =>
  rename_i us
  cases hs with
  | slice _ ad _ _ _ cap g1 g2 g3 g4 g5 =>
  rcases g5 with g5 | ⟨g5, arr, t, fz, g6, g7, g8⟩
  · omega
  obtain ⟨c, l1, l2, l3, rfl⟩ := g5
  obtain ⟨k1, k2⟩ := loadN_each _ _ _ hvs
  simp only at g6 g7
  have hcell : ∀ (i : Nat) v, en.bs[i]? = some v → ∃ u, arr[c.co + (a.i - c.ao) + i]? = some u ∧ VR φ w v u := by
    intro i v hv
    have := k2 i v hv
    obtain ⟨u, m1, m2, _⟩ := loadC_cell H ⟨c, l1, l2, l3, rfl⟩ this
    refine ⟨u, ?_, m2⟩
    rw [add_plain] at m1
    simp only [World.cell?, g6, Option.isSome_none, Bool.false_eq_true, if_false] at m1
    simpa using m1
  have Hb : HR base (textE c.cb (c.co + (a.i - c.ao)) n) hb w := text_view H et e2 g6 hcell
  have Gb : GlobOk glN (textE c.cb (c.co + (a.i - c.ao)) n) w := by
    refine ⟨(fun _ _ z => by cases z), fun p hp => ⟨(G.stat p hp).1, fun b g c' z => ?_⟩⟩
    obtain ⟨_, _, rfl⟩ := textE_inv z
    have := (G.stat p hp).2 a.b a.g c l1
    exact this
  have hL : LR (textE c.cb (c.co + (a.i - c.ao)) n) ⟨0, 0, 0, n⟩ ⟨c.cb, c.co + (a.i - c.ao), none⟩ := ⟨⟨c.cb, c.co + (a.i - c.ao), 0, n⟩, by unfold textE; rw [if_pos ⟨rfl, rfl⟩], rfl, Nat.le_refl _, by simp⟩
  have hA : All2 (VR (textE c.cb (c.co + (a.i - c.ao)) n) w) (.slice (some ⟨0, 0, 0, en.bs.length⟩) en.bs.length en.bs.length 1 :: en.rest) (Array.mk (Value.slice (some ⟨c.cb, c.co + (a.i - c.ao), none⟩) n cap :: us)).toList := by
    rw [k1]
    refine .cons (.slice _ _ n n 1 cap (Nat.le_refl _) (by omega) (by decide) (by simp) (.inr ⟨hL, arr, t, fz, g6, g7, g8⟩)) (scalRs_VR e1 ht)
  have fin : ∀ (v : Value) (φ1 : Emb) (w1 : World), Step base (textE c.cb (c.co + (a.i - c.ao)) n) hb w φ1 res.2 w1 → VR φ1 w1 res.1 v → Step base φ h w φ h w1 ∧ VR φ w1 (.tup en.res) v := by
    intro v φ1 w1 S hv
    refine ⟨below_step H (text_below et S), ?_⟩
    obtain ⟨r1, h1⟩ := res
    split at hE
    case h_2 => cases hE
    rename_i l h1' heq
    cases heq
    rw [sameR_eq hE] at e3 ⊢
    cases hv with
    | tup _ ts hts => exact .tup _ _ (scalRs_VR e3 hts)
  rcases hcall f' _ hb res hres _ w _ Hb Gb hA with ⟨c1, c2⟩ | ⟨v, φ1, w1, c1, s, hv⟩
  · refine .inl ⟨c1, c2.mono ?_⟩
    rintro _ w1 ⟨v, φ1, rfl, s, hv⟩
    obtain ⟨x1, x2⟩ := fin v φ1 w1 s hv
    exact ⟨v, φ, rfl, x1, x2⟩
  · obtain ⟨x1, x2⟩ := fin v φ1 w1 s hv
    exact .inr ⟨v, φ, w1, c1, x1, x2⟩
end
end Go.Vai
/- The abstract machine: slices.Insert: what a copy does in raw rows. -/
namespace Go.Vai
set_option linter.unusedVariables false
set_option linter.unusedSimpArgs false
set_option linter.unusedSectionVars false
/-- a value that takes one cell -/
def OneV (u : Value) : Prop := (∀ cs, u ≠ .agg cs) ∧ (∀ cs, u ≠ .tuple cs)
section
variable {P : Program} {w w' : World}
theorem run_copy_raw {ts : Array TypeId} {t ty el : TypeId} (h0 : ts[0]? = some t) (hu : P.underlying t = some (.slice el)) {size : Nat} (hz : sizeT P el = some size) {db d0 dl dc sb s0 sl sc : Nat} {darr sarr : Array Value} {dt st : TypeId} {dfz sfz : Nat × Nat}
    (hd : w.heap[db]? = some (.cells darr dt dfz)) (hdf : FzOk dfz darr.size) (hs : w.heap[sb]? = some (.cells sarr st sfz)) {k : Nat} (hk : min sl dl = k) (hsr : s0 + k * size ≤ sarr.size) (hdr : d0 + k * size ≤ darr.size)
    (hone : ∀ (j : Nat) u, j < k * size → sarr[s0 + j]? = some u → OneV u) :
    ∃ darr' : Array Value, (Builtin.copy_ ts ty #[.slice (some ⟨db, d0, none⟩) dl dc, .slice (some ⟨sb, s0, none⟩) sl sc]).run P w = .ok (goInt k) (setBlock w db (.cells darr' dt dfz)) ∧ darr'.size = darr.size ∧
      (∀ j, j < d0 ∨ d0 + k * size ≤ j → darr'[j]? = darr[j]?) ∧ (∀ j, j < k * size → darr'[d0 + j]? = sarr[s0 + j]?) := by
  letI : Lane := Lane.some
  obtain ⟨us, u1, u2, u3⟩ := loadCells_raw (P := P) (w := w) (off := s0) hs (k * size) 0 #[] (by omega)
  obtain ⟨darr', s1, s2, s3, s4⟩ := storeCells_raw (P := P) (cb := db) (off := d0) (t := dt) (fz := dfz) us 0 w darr hd hdf.2 (by omega) (fun u hu => by
    obtain ⟨j, hj, e⟩ := List.getElem_of_mem hu
    have e' : us[j]? = some u := by rw [List.getElem?_eq_getElem hj, e]
    have := u3 j (by omega)
    rw [e'] at this
    exact hone j u (by omega) (by rw [this]; congr 1))
  refine ⟨darr', ?_, s2, fun j hj => s3 j (by omega), fun j hj => ?_⟩
  · have f1 : (Builtin.firstCells size k (.slice (some ⟨sb, s0, none⟩) sl sc)).run P w = .ok us.toArray w := by simpa [Builtin.firstCells, loadCells] using u1
    have f2 : (storeCells ⟨db, d0, none⟩ us 0).run P w = .ok () (setBlock w db (.cells darr' dt dfz)) := s1
    have hlen : (Builtin.lenOf (.slice (some ⟨sb, s0, none⟩) sl sc)).run P w = .ok sl w := rfl
    have hmin : Nat.min sl dl = k := hk
    have hmin2 : Nat.min dl sl = k := by show min dl sl = k; rw [Nat.min_comm]; exact hk
    unfold Builtin.copy_
    simp only [h0, List.getElem?_toArray, List.getElem?_cons_zero, List.getElem?_cons_succ]
    simp only [Sem.run_bind, run_underlying hu, Result.andThen_ok, run_sizeT hz, hlen, hmin, f1, f2, Sem.run_pure]
  · have h1 := u3 j hj
    have hj' : j < us.length := by omega
    have h2 := s4 j us[j] (by rw [List.getElem?_eq_getElem hj'])
    rw [Nat.add_zero] at h2
    rw [h2, ← List.getElem?_eq_getElem hj', h1, Nat.add_zero]
end
/-- slices.Insert: what is put in, and what stood from there on, in a new generation -/
def insA (SZ : Nat) (args : List AV) (h : Heap) : Option (AV × Heap) :=
  match args with
  | [.slice (some a) n _ sz, .int .i64 (.ofNat i), .slice (some b) m _ sz'] =>
    cond (Nat.beq sz SZ && Nat.beq sz' SZ && Nat.blt 0 SZ && Nat.blt i n && Nat.blt 0 m && !Nat.beq a.b b.b && Nat.ble (n + m) 65536 && Nat.beq (b.g % 2) 0 && (match h.objs.get b.b with | some (.cells false _ _) => true | _ => false))
      ((loadN h b 0 (m * SZ)).bind fun vs => (loadN h { a with i := a.i + i * SZ } 0 ((n - i) * SZ)).bind fun ws => growA h a i (n - i + m) SZ (vs ++ ws)) none
  | _ => none
section
variable [Lane]
variable {P : Program} {base : Nat} {φ φ' : Emb} {h h' : Heap} {w w' : World} {glob : Nat → Option AV}
theorem All2.of_at {α β : Type} {R : α → β → Prop} : ∀ {l : List α} {m : List β}, l.length = m.length → (∀ (i : Nat) a b, l[i]? = some a → m[i]? = some b → R a b) → All2 R l m
  | [], [], _, _ => .nil
  | [], _ :: _, e, _ => by simp at e
  | _ :: _, [], e, _ => by simp at e
  | a :: l, b :: m, e, k => .cons (k 0 a b rfl rfl) (All2.of_at (by simpa using e) fun i x y h1 h2 => k (i + 1) x y (by simpa using h1) (by simpa using h2))
/-- the cells that are read, where they lie -/
theorem loadN_raw (H : HR base φ h w) {a : Loc} {c : CL} (h1 : φ a.b a.g = some c) (h2 : a.e = c.e) (h3 : c.ao ≤ a.i) {arr : Array Value} {t : TypeId} {fz : Nat × Nat} (ha : w.heap[c.cb]? = some (.cells arr t fz)) {n : Nat} {vs : List AV} (e : loadN h a 0 n = some vs) :
    ∃ us : List Value, us.length = n ∧ All2 (VR φ w) vs us ∧ (∀ v ∈ vs, oneCell v = true) ∧ (∀ j, j < n → arr[c.co + (a.i - c.ao) + j]? = us[j]?) ∧ (∀ u ∈ us, OneV u) ∧ vs.length = n := by
  obtain ⟨k1, k2⟩ := loadN_each _ _ _ e
  have hat : ∀ (j : Nat) v, vs[j]? = some v → ∃ u, arr[c.co + (a.i - c.ao) + j]? = some u ∧ VR φ w v u ∧ oneCell v = true := by
    intro j v hv
    obtain ⟨u, m1, m2, m3⟩ := loadC_cell H ⟨c, h1, h2, h3, rfl⟩ (k2 j v hv)
    refine ⟨u, ?_, m2, m3⟩
    rw [add_plain, Nat.zero_add] at m1
    simp only [World.cell?, ha, Option.isSome_none, Bool.false_eq_true, if_false] at m1
    exact m1
  have hsz : n = 0 ∨ c.co + (a.i - c.ao) + n ≤ arr.size := by
    rcases Nat.eq_zero_or_pos n with z | z
    · exact .inl z
    · right
      obtain ⟨u, m1, _⟩ := hat (n - 1) vs[n - 1] (List.getElem?_eq_getElem (by omega))
      have : c.co + (a.i - c.ao) + (n - 1) < arr.size := by
        rcases Nat.lt_or_ge (c.co + (a.i - c.ao) + (n - 1)) arr.size with q | q
        · exact q
        · rw [Array.getElem?_eq_none q] at m1; cases m1
      omega
  obtain ⟨us, hus⟩ : ∃ us, us = (arr.toList.drop (c.co + (a.i - c.ao))).take n := ⟨_, rfl⟩
  have hlen : us.length = n := by
    rw [hus]
    simp only [List.length_take, List.length_drop, Array.length_toList]
    omega
  have hget : ∀ j, j < n → arr[c.co + (a.i - c.ao) + j]? = us[j]? := by
    intro j hj
    rw [hus, List.getElem?_take_of_lt hj, List.getElem?_drop, Array.getElem?_toList]
  have ha2 : All2 (VR φ w) vs us := All2.of_at (by omega) fun j v u hv hu => by
    have hj : j < n := by
      rcases Nat.lt_or_ge j vs.length with q | q
      · omega
      · rw [List.getElem?_eq_none q] at hv; cases hv
    obtain ⟨u', m1, m2, _⟩ := hat j v hv
    rw [hget j hj, hu] at m1
    cases m1
    exact m2
  have hone : ∀ v ∈ vs, oneCell v = true := by
    intro v hv
    obtain ⟨j, hj, e⟩ := List.getElem_of_mem hv
    obtain ⟨_, _, _, m3⟩ := hat j v (by rw [List.getElem?_eq_getElem hj, e])
    exact m3
  refine ⟨us, hlen, ha2, hone, hget, fun u hu => ?_, k1⟩
  obtain ⟨v, hv1, hv2⟩ := All2.mem ha2 u hu
  exact oneCell_value hv2 (hone v hv1)
def RoomOk (P : Program) (f SZ : Nat) : Prop := ∀ (w : World) (sb so n c i vb vo m vc : Nat) {sarr varr : Array Value} {st vt : TypeId} {sfz : Nat × Nat}, w.heap[sb]? = some (.cells sarr st sfz) → FzOk sfz sarr.size → so + c * SZ ≤ sarr.size →
    w.heap[vb]? = some (.cells varr vt (0, 0)) → vo + m * SZ ≤ varr.size → vb ≠ sb → i < n → 0 < m → n + m ≤ 65536 → n + m ≤ c →
    (∀ (j : Nat) u, i * SZ ≤ j → j < n * SZ → sarr[so + j]? = some u → OneV u) → (∀ (j : Nat) u, j < m * SZ → varr[vo + j]? = some u → OneV u) →
    Calls P f #[.slice (some ⟨sb, so, none⟩) n c, .int .i64 i, .slice (some ⟨vb, vo, none⟩) m vc] w fun e w' =>
      e = .returned (.slice (some ⟨sb, so, none⟩) (n + m) c) ∧ ∃ k arr', w' = { setBlock w sb (.cells arr' st sfz) with drawn := k } ∧ arr'.size = sarr.size ∧
        (∀ j, j < so + i * SZ ∨ so + (n + m) * SZ ≤ j → arr'[j]? = sarr[j]?) ∧ (∀ j, j < m * SZ → arr'[so + i * SZ + j]? = varr[vo + j]?) ∧ (∀ j, j < (n - i) * SZ → arr'[so + (i + m) * SZ + j]? = sarr[so + i * SZ + j]?)
def GrowOk (P : Program) (f SZ : Nat) (E : TypeId) : Prop := ∀ (w : World) (sb so n c i vb vo m vc : Nat) {sarr varr : Array Value} {st vt : TypeId} {sfz vfz : Nat × Nat}, w.heap[sb]? = some (.cells sarr st sfz) → so + n * SZ ≤ sarr.size →
    w.heap[vb]? = some (.cells varr vt vfz) → vo + m * SZ ≤ varr.size → i < n → 0 < m → n + m ≤ 65536 → n ≤ c → c < n + m →
    (∀ (j : Nat) u, i * SZ ≤ j → j < n * SZ → sarr[so + j]? = some u → OneV u) → (∀ (j : Nat) u, j < m * SZ → varr[vo + j]? = some u → OneV u) →
    Calls P f #[.slice (some ⟨sb, so, none⟩) n c, .int .i64 i, .slice (some ⟨vb, vo, none⟩) m vc] w fun e w' =>
      ∃ G arr' k, e = .returned (.slice (some ⟨w.heap.size, 0, none⟩) (n + m) G) ∧ n + m ≤ G ∧ w' = { w.alloc (.cells arr' E) with drawn := k } ∧ G * SZ ≤ arr'.size ∧
        (∀ j, j < i * SZ → arr'[j]? = sarr[so + j]?) ∧ (∀ j, j < m * SZ → arr'[i * SZ + j]? = varr[vo + j]?) ∧ (∀ j, j < (n - i) * SZ → arr'[(i + m) * SZ + j]? = sarr[so + i * SZ + j]?)
theorem insA_ok {f SZ : Nat} {E : TypeId} (hen : ∀ us w, (callFunc f us).run P w = .ok (.enter f us) w) (hR : RoomOk P f SZ) (hG : GrowOk P f SZ E) : CallOk P base glob (hkF f (insA SZ)) := by
  refine hkF_ok hen ?_
  intro args h r e φ w us H G hl
  unfold insA at e
  split at e
  case h_2 => cases e
  rename_i a n room sz i b m room' sz'
  cases hc : (Nat.beq sz SZ && Nat.beq sz' SZ && Nat.blt 0 SZ && Nat.blt i n && Nat.blt 0 m && !Nat.beq a.b b.b && Nat.ble (n + m) 65536 && Nat.beq (b.g % 2) 0 && (match h.objs.get b.b with | some (.cells false _ _) => true | _ => false)) with
  | false => rw [hc] at e; cases e
  | true =>
  rw [hc, cond_true] at e
  simp only [Bool.and_eq_true, Nat.beq_eq, Nat.blt_eq, Bool.not_eq_true', Nat.ble_eq] at hc
  obtain ⟨⟨⟨⟨⟨⟨⟨⟨hsz1, hsz2⟩, hz⟩, hi⟩, hm⟩, hab⟩, hnm⟩, hpar⟩, hobj⟩ := hc
  have hsz1 := hsz1.symm
  have hsz2 := hsz2.symm
  subst hsz1
  subst hsz2
  have hab' : a.b ≠ b.b := by
    intro z
    rw [z] at hab
    simp at hab
  split at hobj
  case h_2 => cases hobj
  rename_i genb csb hgb
  simp only [Option.bind_eq_some_iff] at e
  obtain ⟨vs, hvs, ws, hws, e⟩ := e
  obtain ⟨us⟩ := us
  cases hl with
  | cons hs ht =>
  cases ht with
  | cons hint ht =>
  cases ht with
  | cons hv ht =>
  cases ht
  cases hint
  cases hs with
  | slice _ ad _ _ _ cap g1 g2 g3 g4 g5 =>
  cases hv with
  | slice _ bd _ _ _ cap' f1 f2 f3 f4 f5 =>
  rcases g5 with g5 | ⟨g5, sarr, st, sfz, g6, g7, g8⟩
  · omega
  rcases f5 with f5 | ⟨f5, varr, vt, vfz, f6, f7, f8⟩
  · omega
  obtain ⟨c, l1, l2, l3, rfl⟩ := g5
  obtain ⟨c', l1', l2', l3', rfl⟩ := f5
  simp only at g6 g7 f6 f7
  obtain ⟨_, _, _, varr2, vt2, vfz2, y1, y2, _⟩ := H.cells _ _ _ _ _ _ hgb l1'
  rw [f6] at y1
  cases y1
  have hvfz : vfz = (0, 0) := (y2 rfl).2 hpar
  subst hvfz
  have hbne : c'.cb ≠ c.cb := fun z => hab' (H.inj _ _ _ _ _ _ l1' l1 z).1.symm
  obtain ⟨uv, v1, v2, v3, v4, v5, v6⟩ := loadN_raw H l1' l2' l3' f6 hvs
  have l3b : c.ao ≤ a.i + i * SZ := by omega
  obtain ⟨uw, w1, w2, w3, w4, w5, w6⟩ := loadN_raw (a := { a with i := a.i + i * SZ }) H l1 l2 l3b g6 hws
  have hoff : c.co + (a.i + i * SZ - c.ao) = c.co + (a.i - c.ao) + i * SZ := by omega
  simp only [hoff] at w4
  have hmul : ∀ x y : Nat, x ≤ y → x * SZ ≤ y * SZ := fun x y q => Nat.mul_le_mul_right SZ q
  have hni : (n - i) * SZ + i * SZ = n * SZ := by rw [← Nat.add_mul]; congr 1; omega
  have hone1 : ∀ (j : Nat) u, i * SZ ≤ j → j < n * SZ → sarr[c.co + (a.i - c.ao) + j]? = some u → OneV u := by
    intro j u q1 q2 q3
    have := w4 (j - i * SZ) (by omega)
    rw [show c.co + (a.i - c.ao) + i * SZ + (j - i * SZ) = c.co + (a.i - c.ao) + j by omega, q3] at this
    exact w5 u (List.mem_of_getElem? this.symm)
  have hone2 : ∀ (j : Nat) u, j < m * SZ → varr[c'.co + (b.i - c'.ao) + j]? = some u → OneV u := by
    intro j u q1 q2
    have := v4 j q1
    rw [q2] at this
    exact v5 u (List.mem_of_getElem? this.symm)
  have hvl : (vs ++ ws).length = (n - i + m) * SZ := by rw [List.length_append, v6, w6, ← Nat.add_mul]; congr 1; omega
  have hbound : a.i + i * SZ ≤ a.e := by
    have := hmul i room (by omega)
    omega
  have huu : All2 (VR φ w) (vs ++ ws) (uv ++ uw) := v2.append w2
  have hsum : i + (n - i + m) = n + m := by omega
  have hcap1 := hmul n cap (by omega)
  have hcap2 := hmul m cap' (by omega)
  by_cases hroom : n + m ≤ cap
  · obtain ⟨gen, cs, d1, d2, d3, d4, d5, d6, _⟩ := grow_step H e hz hvl hbound
    have hcap3 := hmul (n + m) cap hroom
    refine (hR w c.cb (c.co + (a.i - c.ao)) n cap i c'.cb (c'.co + (b.i - c'.ao)) m cap' g6 g8 (by omega) f6 (by omega) hbne hi hm hnm hroom hone1 hone2).mono ?_
    rintro _ w' ⟨rfl, k, arr', rfl, z1, z2, z3, z4⟩
    have st' := d6 c sarr st sfz arr' (uv ++ uw) l1 l2 l3 g6 z1 huu (fun j hj => z2 j (by rw [hsum] at hj; exact hj)) (fun j u hj => by
      rw [List.getElem?_append] at hj
      split at hj
      · rename_i q
        rw [z3 j (by omega), v4 j (by omega)]; exact hj
      · rename_i q
        have hjl : j - uv.length < uw.length := by
          rcases Nat.lt_or_ge (j - uv.length) uw.length with q2 | q2
          · exact q2
          · rw [List.getElem?_eq_none q2] at hj; cases hj
        have := z4 (j - m * SZ) (by omega)
        rw [show c.co + (a.i - c.ao) + (i + m) * SZ + (j - m * SZ) = c.co + (a.i - c.ao) + i * SZ + j by rw [Nat.add_mul]; omega] at this
        rw [this, w4 (j - m * SZ) (by omega), ← v1]; exact hj) (by rw [hsum]; omega)
    have S := Step.trans H st' (drew_step st'.hr k)
    refine ⟨_, _, rfl, S, ?_⟩
    rw [d3, hsum]
    refine .slice _ ⟨c.cb, c.co + (a.i - c.ao), none⟩ (n + m) (n + m) SZ cap (Nat.le_refl _) hroom hz (Nat.le_refl _) (.inr ⟨⟨_, addE_same _ _ _ _, by first | rfl | rw [hsum], l3, rfl⟩, S.rows _ _ ⟨sarr, st, sfz, g6, g7, g8⟩⟩)
  · obtain ⟨gen, cs, d1, d2, d3, d4, d5, _, d6⟩ := grow_step H e hz hvl hbound
    refine (hG w c.cb (c.co + (a.i - c.ao)) n cap i c'.cb (c'.co + (b.i - c'.ao)) m cap' g6 (by omega) f6 (by omega) hi hm hnm (by omega) (by omega) hone1 hone2).mono ?_
    rintro _ w' ⟨Gc, arr', k, rfl, z0, rfl, z1, z2, z3, z4⟩
    have hGm := hmul (n + m) Gc z0
    have hnmi : (n + m) * SZ = i * SZ + (n - i + m) * SZ := by rw [← Nat.add_mul]; congr 1; omega
    have hnmv : (n - i + m) * SZ = m * SZ + (n - i) * SZ := by rw [← Nat.add_mul]; congr 1; omega
    have hparts : arr' = (arr'.toList.take (i * SZ) ++ (uv ++ uw) ++ arr'.toList.drop (i * SZ + (n - i + m) * SZ)).toArray := by
      apply Array.ext_getElem?
      intro j
      have ht : ∀ (l : List Value), l.toArray[j]? = l[j]? := fun l => List.getElem?_toArray
      refine Eq.trans ?_ (ht _).symm
      rw [List.append_assoc, List.getElem?_append]
      have hl1 : (arr'.toList.take (i * SZ)).length = i * SZ := by simp only [List.length_take, Array.length_toList]; omega
      rw [hl1]
      split
      · rename_i q
        rw [List.getElem?_take_of_lt q, Array.getElem?_toList]
      · rename_i q
        rw [List.getElem?_append]
        have hl2 : (uv ++ uw).length = (n - i + m) * SZ := by rw [List.length_append]; omega
        rw [hl2]
        split
        · rename_i q2
          rw [List.getElem?_append]
          split
          · rename_i q3
            have := z3 (j - i * SZ) (by omega)
            rw [show i * SZ + (j - i * SZ) = j by omega, v4 (j - i * SZ) (by omega)] at this
            exact this
          · rename_i q3
            have := z4 (j - i * SZ - m * SZ) (by omega)
            rw [show (i + m) * SZ + (j - i * SZ - m * SZ) = j by rw [Nat.add_mul]; omega, w4 (j - i * SZ - m * SZ) (by omega)] at this
            rw [v1]; exact this
        · rename_i q2
          rw [List.getElem?_drop, Array.getElem?_toList]
          congr 1; omega
    have st' := d6 (arr'.toList.take (i * SZ)) (uv ++ uw) (arr'.toList.drop (i * SZ + (n - i + m) * SZ)) E huu (by simp only [List.length_take, Array.length_toList]; omega) (fun j lo v hj hcs => by
      obtain ⟨p1, p2, p3, arr2, t2, fz2, p4, p5, p6⟩ := H.cells _ _ _ _ _ _ d1 l1
      rw [g6] at p4
      cases p4
      have hroomi := hmul i room (by omega)
      obtain ⟨u, r1, r2, r3⟩ := p6 _ _ _ hcs (by rw [d2]; exact p3 _ _ _ hcs) (by omega) (by omega)
      refine ⟨u, ?_, r2, r3⟩
      rw [List.getElem?_take_of_lt hj, Array.getElem?_toList, z2 j hj, ← r1]
      congr 1; omega)
    rw [← hparts] at st'
    have S := Step.trans H st' (drew_step st'.hr k)
    refine ⟨_, _, rfl, S, ?_⟩
    rw [d3, hsum]
    refine .slice _ ⟨w.heap.size, 0, none⟩ (n + m) (n + m) SZ Gc (Nat.le_refl _) z0 hz (Nat.le_refl _) (.inr ⟨⟨_, addE_same _ _ _ _, by first | rfl | rw [hsum], Nat.le_refl _, by simp⟩, arr', E, (0, 0), alloc_new w _, by simpa using z1, fz00 _⟩)
end
end Go.Vai
/- The abstract machine: what it tells of a closed call; double.Put as a hook (a table of texts). -/
namespace Go.Vai
set_option linter.unusedVariables false
set_option linter.unusedSimpArgs false
set_option linter.unusedSectionVars false
def dputA (xs : List (List UInt8)) (args : List AV) (h : Heap) : Option (AV × Heap) :=
  match args with
  | [.str s] => cond (xs.any fun x => x == s) (some (.tup [.str (34 :: (s ++ [34])), .bool true], h)) none
  | _ => none
/-- a closed call gives this -/
def givesB (call : HookT) (f : Nat) (args : List AV) (v : AV) : Bool :=
  match call f args noHeap with
  | some (r, _) => sameR [r] [v]
  | none => false
section
variable [Lane]
variable {P : Program} {base : Nat} {φ φ' φ'' : Emb} {h h' h'' : Heap} {w w' w'' : World} {glob : Nat → Option AV}
theorem gives_ok {call : HookT} (hcall : CallOk P 0 glN call) {f : Nat} {args : List AV} {us : Array Value} {v : AV} (e : givesB call f args v = true) (hen : (callFunc f us).run P w = .ok (.enter f us) w) (G : GlobOk glN noEmb w)
    (hargs : All2 (VR noEmb w) args us.toList) : Calls P f us w fun en w' => ∃ u φ, en = .returned u ∧ VR φ w' v u ∧ Go.RowKit.Below w.heap.size w w' := by
  unfold givesB at e
  cases q : call f args noHeap with
  | none => rw [q] at e; cases e
  | some r =>
  rw [q] at e
  obtain ⟨r, h1⟩ := r
  have hr : r = v := by have := sameR_eq e; simpa using this
  subst hr
  rcases hcall f args noHeap (r, h1) q noEmb w us (HR.empty w) G hargs with ⟨_, c⟩ | ⟨u, φ', w', c, _⟩
  · refine c.mono ?_
    rintro _ w' ⟨u, φ', rfl, s, hv⟩
    obtain ⟨b1, b2, b3, b4, b5⟩ := s.toWStep.below
    exact ⟨u, φ', rfl, hv, ⟨b1, b2, b3, b4, b5⟩⟩
  · rw [hen] at c; cases c
theorem dputA_ok {f : Nat} {xs : List (List UInt8)} (hen : ∀ us w, (callFunc f us).run P w = .ok (.enter f us) w)
    (hP : ∀ s ∈ xs, ∀ w, Calls P f #[.string ⟨⟨s⟩⟩] w fun e w' => e = .returned (.tuple #[.string ⟨⟨34 :: (s ++ [34])⟩⟩, .bool true]) ∧ Go.RowKit.Below w.heap.size w w') : CallOk P base glob (hkF f (dputA xs)) := by
  refine hkF_ok hen ?_
  intro args h r e φ w us H G hl
  unfold dputA at e
  split at e
  case h_2 => cases e
  rename_i s
  cases hc : (xs.any fun x => x == s) with
  | false => rw [hc] at e; cases e
  | true =>
  rw [hc, cond_true] at e
  cases e
  obtain ⟨x, hx, hxs⟩ := List.any_eq_true.1 hc
  have hxs := eq_of_beq hxs
  subst hxs
  obtain ⟨us⟩ := us
  cases hl with
  | cons hs ht =>
  cases ht
  cases hs
  refine (hP x hx w).mono ?_
  rintro _ w' ⟨rfl, hB⟩
  exact ⟨_, φ, rfl, below_step H hB, .tup _ _ (.cons (.str _) (.cons (.bool _) .nil))⟩
end
end Go.Vai
/- The abstract machine: tables whose answers were turned for runs that go alike, read in one of these runs. -/
namespace Go.Vai
set_option linter.unusedVariables false
set_option linter.unusedSimpArgs false
set_option linter.unusedSectionVars false
/-- an answer, in one of the runs -/
def entAt (n j : Nat) (en : Ent) : Ent := ⟨en.bs.map (atV n j), en.rest.map (atV n j), en.out.map (atV n j), en.e⟩
section
variable [Lane]
variable {P : Program} {base : Nat} {φ φ' φ'' : Emb} {h h' h'' : Heap} {w w' w'' w0 : World} {glob : Nat → Option AV}
theorem VR.unlane1 {x : AV} {u : Value} {n : Nat} (hs : scalar2 x = true) (k : VR φ w (atL n (Lane.l n) x) u) : VR φ w x u := by
  cases x with
  | vec l =>
    have k0 : VR φ w (bif Nat.beq l.length n then l.getD (Lane.l n) .any else .vec l) u := k
    cases q0 : Nat.beq l.length n with
    | false => rw [q0] at k0; exact k0
    | true =>
    rw [q0, cond_true] at k0
    have k' := k0
    have q0' := Nat.eq_of_beq_eq_true q0
    subst q0'
    cases q : l[Lane.l l.length]? with
    | none => rw [List.getD_eq_getElem?_getD, q] at k'; cases k'
    | some y =>
      rw [List.getD_eq_getElem?_getD, q] at k'
      have hy : scalar1 y = true := List.all_eq_true.1 hs y (List.mem_of_getElem? q)
      exact .vec l y u q (by cases y <;> first | rfl | cases hy) k'
  | _ => exact k
theorem scalR_of2 {x : AV} (h : scalar2 x = true) : scalR x = true := by
  cases x <;> first | exact h | (simp [scalar2, scalar1] at h; done)
theorem VR.unlanes {xs : List AV} {us : List Value} (hs : xs.all scalar2 = true) {n : Nat} (k : All2 (VR φ w) (xs.map (atL n (Lane.l n))) us) : All2 (VR φ w) xs us := by
  induction xs generalizing us with
  | nil => cases k; exact .nil
  | cons x xs ih =>
    simp only [List.all_cons, Bool.and_eq_true] at hs
    cases k with
    | cons k1 k2 => exact .cons (VR.unlane1 hs.1 k1) (ih hs.2 k2)
theorem VR.unlane {x : AV} {u : Value} {n : Nat} (hs : scalR x = true) (k : VR φ w (atV n (Lane.l n) x) u) : VR φ w x u := by
  cases x with
  | agg cs =>
    have k' : VR φ w (.agg (cs.map (atL n (Lane.l n)))) u := k
    cases k' with
    | agg _ vs ha => exact .agg cs vs (VR.unlanes hs ha)
  | vec l => exact VR.unlane1 hs k
  | tup l => cases hs
  | func f l => cases hs
  | _ => exact k
theorem VR.unlaneR {xs : List AV} {us : List Value} (hs : xs.all scalR = true) {n : Nat} (k : All2 (VR φ w) (xs.map (atV n (Lane.l n))) us) : All2 (VR φ w) xs us := by
  induction xs generalizing us with
  | nil => cases k; exact .nil
  | cons x xs ih =>
    simp only [List.all_cons, Bool.and_eq_true] at hs
    cases k with
    | cons k1 k2 => exact .cons (VR.unlane hs.1 k1) (ih hs.2 k2)
theorem tabP_ok {call : HookT} {f : Nat} {es : List Ent} (dm : Nat) (hcall : CallOk P base glN call) (hes : ∀ en ∈ es, entB call f en = true ∧ (entAt dm (Lane.l dm) en).out.all scalar2 = true) : CallOk P base glN (hkF f (tabA (es.map (entAt dm (Lane.l dm))))) := by
  intro f' args h r e φ w us H G hl
  unfold hkF at e
  cases q : Nat.beq f' f with
  | false => rw [q] at e; cases e
  | true =>
  have q' := Nat.eq_of_beq_eq_true q
  subst q'
  rw [q, cond_true] at e
  unfold tabA at e
  split at e
  case h_2 => cases e
  rename_i a n room sz rest
  cases hc : (Nat.beq sz 1 && Nat.blt 0 n) with
  | false => rw [hc] at e; cases e
  | true =>
  rw [hc, cond_true] at e
  simp only [Bool.and_eq_true] at hc
  have hsz := Nat.eq_of_beq_eq_true hc.1
  have hn0 := Nat.le_of_ble_eq_true hc.2
  subst hsz
  simp only [Option.bind_eq_some_iff] at e
  obtain ⟨vs, hvs, en', hen, e⟩ := e
  obtain ⟨hmem', rfl, rfl⟩ := findEnt_ok hen
  obtain ⟨en, hmem, rfl⟩ := List.mem_map.1 hmem'
  obtain ⟨hE, hO⟩ := hes en hmem
  unfold entB at hE
  simp only [Bool.and_eq_true] at hE
  obtain ⟨⟨⟨e1, e2⟩, e3⟩, hE⟩ := hE
  split at hE
  · cases hE
  rename_i hb et
  cases hres : call f' (.slice (some ⟨0, 0, 0, en.bs.length⟩) en.bs.length en.bs.length 1 :: en.rest) hb with
  | none => rw [hres] at hE; cases hE
  | some res =>
  rw [hres] at hE
  obtain ⟨us⟩ := us
  cases hl with
  | cons hs ht =>
  rename_i us
  cases hs with
  | slice _ ad _ _ _ cap g1 g2 g3 g4 g5 =>
  rcases g5 with g5 | ⟨g5, arr, t, fz, g6, g7, g8⟩
  · omega
  obtain ⟨c, l1, l2, l3, rfl⟩ := g5
  obtain ⟨k1', k2'⟩ := loadN_each _ _ _ hvs
  have k1 : en.bs.length = n := by simpa [entAt] using k1'
  have hout : (entAt dm (Lane.l dm) en).out = en.out.map (atV dm (Lane.l dm)) := rfl
  simp only at g6 g7
  have hcell : ∀ (i : Nat) v, en.bs[i]? = some v → ∃ u, arr[c.co + (a.i - c.ao) + i]? = some u ∧ VR φ w v u := by
    intro i v hv
    have := k2' i (atV dm (Lane.l dm) v) (by show (en.bs.map (atV dm (Lane.l dm)))[i]? = _; rw [List.getElem?_map, hv]; rfl)
    obtain ⟨u, m1, m2, _⟩ := loadC_cell H ⟨c, l1, l2, l3, rfl⟩ this
    refine ⟨u, ?_, VR.unlane (scalR_of2 (List.all_eq_true.1 e2 v (List.mem_of_getElem? hv))) m2⟩
    rw [add_plain] at m1
    simp only [World.cell?, g6, Option.isSome_none, Bool.false_eq_true, if_false] at m1
    simpa using m1
  have Hb : HR base (textE c.cb (c.co + (a.i - c.ao)) n) hb w := text_view H et e2 g6 hcell
  have Gb : GlobOk glN (textE c.cb (c.co + (a.i - c.ao)) n) w := by
    refine ⟨(fun _ _ z => by cases z), fun p hp => ⟨(G.stat p hp).1, fun b g c' z => ?_⟩⟩
    obtain ⟨_, _, rfl⟩ := textE_inv z
    have := (G.stat p hp).2 a.b a.g c l1
    exact this
  have hL : LR (textE c.cb (c.co + (a.i - c.ao)) n) ⟨0, 0, 0, n⟩ ⟨c.cb, c.co + (a.i - c.ao), none⟩ := ⟨⟨c.cb, c.co + (a.i - c.ao), 0, n⟩, by unfold textE; rw [if_pos ⟨rfl, rfl⟩], rfl, Nat.le_refl _, by simp⟩
  have hA : All2 (VR (textE c.cb (c.co + (a.i - c.ao)) n) w) (.slice (some ⟨0, 0, 0, en.bs.length⟩) en.bs.length en.bs.length 1 :: en.rest) (Array.mk (Value.slice (some ⟨c.cb, c.co + (a.i - c.ao), none⟩) n cap :: us)).toList := by
    rw [k1]
    refine .cons (.slice _ _ n n 1 cap (Nat.le_refl _) (by omega) (by decide) (by simp) (.inr ⟨hL, arr, t, fz, g6, g7, g8⟩)) (scalRs_VR e1 (VR.unlaneR e1 ht))
  -- what comes of the call
  have fin : ∀ (v : Value) (φ1 : Emb) (w1 : World), Step base (textE c.cb (c.co + (a.i - c.ao)) n) hb w φ1 res.2 w1 → VR φ1 w1 res.1 v → ∃ φ', Step base φ h w φ' r.2 w1 ∧ VR φ' w1 r.1 v := by
    intro v φ1 w1 S hv
    have B := text_below et S
    have S0 := below_step H B
    obtain ⟨r1, h1⟩ := res
    unfold bytesR at hE
    split at hE
    case h_2 => cases hE
    rename_i a1 k room1 sz1 e1' h1' heq
    cases heq
    simp only [Bool.and_eq_true, beq_iff_eq] at hE
    obtain ⟨rfl, hE⟩ := hE
    cases hv with
    | tup _ ts hts =>
    cases hts with
    | cons hsl hts =>
    cases hts with
    | cons hint hts =>
    cases hts
    cases hint
    unfold ansEnt at e
    rw [hout] at e
    cases a1 with
    | none =>
      simp only at hE
      cases ho : en.out with
      | cons v l => rw [ho] at hE; cases hE
      | nil =>
      rw [ho] at e
      simp only [List.map_nil, Option.some.injEq] at e
      subst e
      cases hsl
      exact ⟨φ, S0, .tup _ _ (.cons .nilSlice (.cons (.int _ _) .nil))⟩
    | some a1 =>
      simp only [Bool.and_eq_true, Nat.beq_eq, Bool.not_eq_true', Nat.blt_eq] at hE
      obtain ⟨⟨⟨⟨rfl, hk0⟩, hk⟩, hab⟩, hld⟩ := hE
      have hab' : a1.b ≠ 0 := by
        intro z
        rw [z] at hab
        cases hab
      split at hld
      case h_2 => cases hld
      rename_i vs1 hvs1
      have hvs1e := sameR_eq hld
      subst hvs1e
      cases ho : en.out with
      | nil => rw [ho] at hk; simp at hk; omega
      | cons v0 l0 =>
      have e' : (newRow1 h (en.out.map (atV dm (Lane.l dm)))).map (fun r => rowOf r (en.out.map (atV dm (Lane.l dm))).length en.e) = some r := by
        rw [ho] at e ⊢
        exact e
      simp only [Option.map_eq_some_iff] at e'
      obtain ⟨rr, hrr, rfl⟩ := e'
      cases hsl with
      | slice _ ad1 _ _ _ cap1 z1 z2 z3 z4 z5 =>
      rcases z5 with z5 | ⟨z5, arr1, t1, fz1, z6, z7, z8⟩
      · omega
      obtain ⟨n1, n2⟩ := loadN_each _ _ _ hvs1
      obtain ⟨c1, y1, y2, y3, y4⟩ := id z5
      have hnew : w.heap.size ≤ ad1.block := by
        rcases Nat.lt_or_ge ad1.block w.heap.size with z | z
        · obtain ⟨g0, c0, x1, x2⟩ := S.newer _ _ _ y1 (by rw [y4] at z; exact z)
          obtain ⟨x, _⟩ := textE_inv x1
          exact absurd x hab'
        · exact z
      obtain ⟨m1, m2⟩ := know_step H S0 (cb := ad1.block) (co := ad1.off) hnew hrr z6 z8 hO (fun i v hv => by
        rw [List.getElem?_map, Option.map_eq_some_iff] at hv
        obtain ⟨v, hv, rfl⟩ := hv
        obtain ⟨u, x1, x2, _⟩ := loadC_cell S.hr z5 (n2 i v hv)
        rw [z5.form, add_plain] at x1
        simp only [World.cell?, z6, Option.isSome_none, Bool.false_eq_true, if_false] at x1
        exact ⟨u, by simpa using x1, φ1, w1, x2.laneV dm⟩)
      refine ⟨_, m2, ?_⟩
      have hadf : ad1 = ⟨ad1.block, ad1.off, none⟩ := z5.form
      refine .tup _ _ (.cons ?_ (.cons (.int _ _) .nil))
      rw [m1]
      show VR _ _ _ (.slice _ k _)
      rw [hk, ← List.length_map (as := en.out) (f := atV dm (Lane.l dm))]
      refine .slice _ ad1 _ _ 1 cap1 (Nat.le_refl _) (by rw [List.length_map]; omega) (by decide) (by simp) (.inr ⟨⟨_, addE_same _ _ _ _, rfl, Nat.le_refl _, ?_⟩, arr1, t1, fz1, z6, z7, z8⟩)
      rw [hadf]; simp
  rcases hcall f' _ hb res hres _ w _ Hb Gb hA with ⟨c1, c2⟩ | ⟨v, φ1, w1, c1, s, hv⟩
  · refine .inl ⟨c1, c2.mono ?_⟩
    rintro _ w1 ⟨v, φ1, rfl, s, hv⟩
    obtain ⟨φ', x1, x2⟩ := fin v φ1 w1 s hv
    exact ⟨v, φ', rfl, x1, x2⟩
  · obtain ⟨φ', x1, x2⟩ := fin v φ1 w1 s hv
    exact .inr ⟨v, φ', w1, c1, x1, x2⟩
end
end Go.Vai
/- The abstract machine: a law that is run whole, over numbers that it was handed in a slice. -/
namespace Go.Vai
set_option linter.unusedVariables false
set_option linter.unusedSimpArgs false
set_option linter.unusedSectionVars false
/-- the memory that holds the law's own first numbers -/
def numsH (n : Nat) : Option Heap := textH ((List.range n).map .arg)
def runNums (P : Program) (cl : CallT) (L N : Nat) (c : Code) (t2 : Nat) (args : List AV) (n : Nat) : Bool :=
  match numsH n with
  | none => false
  | some h => match argsF 0 args .nil with
    | none => false
    | some fr => (match (codeB P glN L N c).f cl fr h with
      | some (.ret, s) => (match s.fr.get t2 with | some (.bool b) => b | _ => false)
      | _ => false)
section
variable [Lane]
variable {P : Program} {base : Nat} {φ φ' φ'' : Emb} {h h' h'' : Heap} {w w' w'' w0 : World} {glob : Nat → Option AV}
/-- where the numbers lie -/
def numsE (cb co n : Nat) : Emb := if n = 0 then noEmb else textE cb co n
theorem numsE_inv {cb co n b g : Nat} {c : CL} (e : numsE cb co n b g = some c) : n ≠ 0 ∧ b = 0 ∧ g = 0 ∧ c = ⟨cb, co, 0, n⟩ := by
  unfold numsE at e
  split at e
  · cases e
  · rename_i h; exact ⟨h, textE_inv e⟩
theorem nums_view {n : Nat} {hb : Heap} (et : numsH n = some hb) {cb co : Nat} (hrow : n ≠ 0 → ∃ arr t fz, w.heap[cb]? = some (.cells arr t fz) ∧ ∀ i, i < n → arr[co + i]? = some (.int .i64 (Lane.arg i))) : HR 0 (numsE cb co n) hb w := by
  obtain ⟨p1, ⟨cs0, p2, p3⟩, p4⟩ := textH_get et
  refine ⟨?_, Nat.zero_le _, ?_, ?_, ?_, ?_, ?_⟩
  · intro b hb'
    rw [p1] at hb'
    refine ⟨p4 b (by omega), fun g' => ?_⟩
    cases q : numsE cb co n b g' with
    | none => rfl
    | some c => obtain ⟨_, rfl, _⟩ := numsE_inv q; omega
  · intro b g' c' e
    obtain ⟨hn, _, _, rfl⟩ := numsE_inv e
    obtain ⟨arr, t, fz, ha, _⟩ := hrow hn
    exact lt_of_heap ha
  · intro b g' c' b2 g2 c2 e e2 _
    obtain ⟨_, rfl, rfl, rfl⟩ := numsE_inv e
    obtain ⟨_, rfl, rfl, rfl⟩ := numsE_inv e2
    exact ⟨rfl, rfl, rfl⟩
  · intro b ro gen' cs' e i lo v hi
    by_cases k : b = 0
    · subst k; rw [p2] at e; cases e; rw [(p3 i lo v hi).1]; exact Nat.le_refl _
    · rw [p4 b k] at e; cases e
  · intro b ro gen' cs' g' c' e e2
    obtain ⟨hn, rfl, rfl, rfl⟩ := numsE_inv e2
    rw [p2] at e; cases e
    obtain ⟨arr, t, fz, ha, hc⟩ := hrow hn
    refine ⟨⟨Nat.le_refl _, rfl⟩, (fun z => by cases z), fun i lo v hi => by rw [(p3 i lo v hi).1]; exact Nat.le_refl _, arr, t, fz, ha, (fun z => by cases z), ?_⟩
    intro i lo v hi _ _ hin
    obtain ⟨_, hv⟩ := p3 i lo v hi
    have hin' : i < n := hin
    rw [List.getElem?_map, List.getElem?_range hin'] at hv
    simp only [Option.map_some, Option.some.injEq] at hv
    subst hv
    exact ⟨_, by simpa using hc i hin', .arg i, rfl⟩
  · intro b x g' c' e hx e2
    obtain ⟨_, rfl, rfl, rfl⟩ := numsE_inv e2
    rw [p2] at e; cases e; cases hx
theorem law_nums {cl : CallT} {L N : Nat} (hc : CallOk P 0 glN cl) (hmix : P.follows .mixedOrders = true) {f : FuncId} {fn : Func} {lb : Code} {args : List AV} {us : Array Value} {t2 n cb co : Nat} {w : World}
    (hf : P.funcs[f]? = some fn) (hb : fn.body = some lb) (hN : fn.ntmps = N) (hres : fn.results.toList = [.tmp t2])
    (hrow : n ≠ 0 → ∃ arr t fz, w.heap[cb]? = some (.cells arr t fz) ∧ ∀ i, i < n → arr[co + i]? = some (.int .i64 (Lane.arg i)))
    (G0 : GlobOk glN (numsE cb co n) w) (hargs : All2 (VR (numsE cb co n) w) args us.toList) (hlen : args.length ≤ N) (e : runNums P cl L N lb t2 args n = true) :
    Calls P f us w fun e w' => e = .returned (.bool true) ∧ (w'.os = w.os ∧ w'.tape = w.tape ∧ w'.output = w.output ∧ w.heap.size ≤ w'.heap.size ∧ ∀ k, k < w.heap.size → w'.heap[k]? = w.heap[k]?) := by
  unfold runNums at e
  split at e
  · cases e
  rename_i h0 eh
  split at e
  · cases e
  rename_i fr0 e0
  rw [argsF_eq] at e0
  split at e
  case h_2 => cases e
  rename_i s hs
  split at e
  case h_2 => cases e
  rename_i bb hg
  subst e
  rw [codeB_eq] at hs
  refine calls_of_wp hf hb ?_
  rw [hN]
  have H0 : HR 0 (numsE cb co n) h0 w := nums_view eh hrow
  have F0 := FR.start (N := N) e0 hargs hlen
  refine code_ok hc hmix L lb (st := ⟨fr0, h0⟩) H0 G0 F0 hs ?_
  intro φ' w' a' s' f' d
  have hr : mapO (resA P s.h s.fr) fn.results.toList = some [.bool true] := by
    rw [hres]
    simp only [mapO, resA, hg, liveV, Option.bind_some]
  obtain ⟨u, m1, m2⟩ := results_ok s'.hr f' hr
  have hu : u = .bool true := by
    have m2' : VR φ' w' (.bool true) u := m2
    cases m2'; rfl
  refine ⟨by rw [d], u, m1, by rw [hu], s'.kept.os, s'.kept.tape, s'.kept.output, s'.kept.size, fun k hk => s'.kept.block k hk fun b g c e1 e2 => ?_⟩
  obtain ⟨p1, ⟨cs0, p2, p3⟩, p4⟩ := textH_get eh
  obtain ⟨_, rfl, _, _⟩ := numsE_inv e1
  have e2' : wr (h0.objs.get 0) = true := e2
  rw [p2] at e2'
  cases e2'
end
end Go.Vai
/- The abstract machine: functions of numbers and texts that answer such, by a table: each answer was turned once, from no memory at all. -/
namespace Go.Vai
set_option linter.unusedVariables false
set_option linter.unusedSimpArgs false
set_option linter.unusedSectionVars false
structure EntS where
  args : List AV
  res : AV
def findS (args : List AV) : List EntS → Option AV
  | [] => none
  | en :: l => bif sameR en.args args then some en.res else findS args l
def sclA (es : List EntS) (args : List AV) (h : Heap) : Option (AV × Heap) := (findS args es).map fun v => (v, h)
def entSB (call : HookT) (f : Nat) (en : EntS) : Bool := givesB call f en.args en.res && (en.args.all scalR && scalR en.res)
section
variable [Lane]
variable {P : Program} {φ φ' φ'' : Emb} {h h' h'' : Heap} {w w' w'' w0 : World} {glob : Nat → Option AV}
theorem findS_ok {args : List AV} : ∀ {l : List EntS} {v : AV}, findS args l = some v → ∃ en ∈ l, en.args = args ∧ en.res = v
  | [], v, e => by cases e
  | x :: l, v, e => by
    unfold findS at e
    cases q : sameR x.args args with
    | true => rw [q, cond_true] at e; cases e; exact ⟨x, by simp, sameR_eq q, rfl⟩
    | false =>
      rw [q, cond_false] at e
      obtain ⟨en, k1, k2⟩ := findS_ok e
      exact ⟨en, by simp [k1], k2⟩
theorem sclA_ok {call : HookT} {f : Nat} {es : List EntS} (hcall : CallOk P 0 glN call) (hen : ∀ us w, (callFunc f us).run P w = .ok (.enter f us) w) (hes : ∀ en ∈ es, entSB call f en = true) : CallOk P 0 glN (hkF f (sclA es)) := by
  refine hkF_ok hen ?_
  intro args h r e φ w us H G hl
  unfold sclA at e
  simp only [Option.map_eq_some_iff] at e
  obtain ⟨v, hv, rfl⟩ := e
  obtain ⟨en, k1, rfl, rfl⟩ := findS_ok hv
  have hE := hes en k1
  unfold entSB at hE
  simp only [Bool.and_eq_true] at hE
  obtain ⟨hg, ha, hs⟩ := hE
  have G0 : GlobOk glN noEmb w := ⟨(fun _ _ z => by cases z), fun p hp => ⟨(G.stat p hp).1, fun b g c z => by cases z⟩⟩
  refine (gives_ok hcall hg (hen us w) G0 (scalRs_VR ha hl)).mono ?_
  rintro _ w' ⟨u, φ1, rfl, hu, hB⟩
  exact ⟨u, φ, rfl, below_step H hB, scalR_VR hs hu⟩
end
end Go.Vai
