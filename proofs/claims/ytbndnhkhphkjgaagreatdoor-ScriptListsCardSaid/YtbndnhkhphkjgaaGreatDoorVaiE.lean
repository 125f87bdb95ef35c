/- The abstract machine: functions of a text that are answered by a table: each answer was turned once, from a memory that holds the text alone. -/
import Derived.Test.YtbndnhkhphkjgaaGreatDoorVaiH
namespace Go.Vai
set_option linter.unusedVariables false
set_option linter.unusedSimpArgs false
set_option linter.unusedSectionVars false
/-- an answer: at these bytes, and these arguments more, these bytes come, and this number -/
structure Ent where
  bs : List AV
  rest : List AV
  out : List AV
  e : Int
def scalR : AV → Bool
  | .agg l => l.all scalar2
  | x => scalar2 x
def sameR : List AV → List AV → Bool
  | [], [] => true
  | x :: l, y :: m => sameV x y && sameR l m
  | _, _ => false
def findEnt (vs rest : List AV) : List Ent → Option Ent
  | [] => none
  | en :: l => bif sameR en.bs vs && sameR en.rest rest then some en else findEnt vs rest l
def rowOf (r : Nat × Heap) (n : Nat) (e : Int) : AV × Heap := (.tup [.slice (some ⟨r.1, 0, 0, n⟩) n n 1, .int .i64 e], r.2)
def ansEnt (h : Heap) (en : Ent) : Option (AV × Heap) :=
  match en.out with
  | [] => some (.tup [.slice none 0 0 0, .int .i64 en.e], h)
  | v :: l => (newRow h (v :: l)).map fun r => rowOf r (v :: l).length en.e
def tabA (es : List Ent) (args : List AV) (h : Heap) : Option (AV × Heap) :=
  match args with
  | .slice (some a) n _ sz :: rest => cond (Nat.beq sz 1 && Nat.blt 0 n) ((loadN h a 0 n).bind fun vs => (findEnt vs rest es).bind (ansEnt h)) none
  | _ => none
/-- the memory that holds one text, to be read -/
def textH (vs : List AV) : Option Heap := (fillTr 0 .nil 0 vs).bind fun cs => ((Tr.nil : Tr AObj).set 0 (.cells true 0 cs)).map fun os => ⟨1, os⟩
def bytesR (h : Heap) (n : Nat) (out : List AV) (e : Int) (r : Option (AV × Heap)) : Bool :=
  match r with
  | some (.tup [.slice a k _ sz, .int .i64 e'], h1) => (e' == e) && (match a with
    | none => (match out with | [] => true | _ => false)
    | some a => Nat.beq sz 1 && Nat.blt 0 k && Nat.beq k out.length && !Nat.beq a.b 0 && (match loadN h1 a 0 k with | some vs => sameR out vs | none => false))
  | _ => false
/-- one entry is right -/
def entB (call : HookT) (f : Nat) (en : Ent) : Bool :=
  en.rest.all scalR && en.bs.all scalar2 && en.out.all scalar2 && (match textH en.bs with
    | none => false
    | some hb => bytesR hb en.bs.length en.out en.e (call f (.slice (some ⟨0, 0, 0, en.bs.length⟩) en.bs.length en.bs.length 1 :: en.rest) hb))
section
variable [Lane]
variable {P : Program} {base : Nat} {φ φ' φ'' : Emb} {h h' h'' : Heap} {w w' w'' w0 : World} {glob : Nat → Option AV}
theorem sameR_eq : ∀ {l m : List AV}, sameR l m = true → l = m
  | [], [], _ => rfl
  | [], _ :: _, e => by simp [sameR] at e
  | _ :: _, [], e => by simp [sameR] at e
  | x :: l, y :: m, e => by
    simp only [sameR, Bool.and_eq_true] at e
    rw [sameV_eq e.1, sameR_eq e.2]
theorem findEnt_ok {vs rest : List AV} : ∀ {l : List Ent} {en : Ent}, findEnt vs rest l = some en → en ∈ l ∧ en.bs = vs ∧ en.rest = rest
  | [], en, e => by simp [findEnt] at e
  | x :: l, en, e => by
    unfold findEnt at e
    cases q : (sameR x.bs vs && sameR x.rest rest) with
    | true =>
      rw [q, cond_true] at e
      cases e
      simp only [Bool.and_eq_true] at q
      exact ⟨by simp, sameR_eq q.1, sameR_eq q.2⟩
    | false =>
      rw [q, cond_false] at e
      obtain ⟨k1, k2, k3⟩ := findEnt_ok e
      exact ⟨by simp [k1], k2, k3⟩
theorem scalR_VR {x : AV} {v : Value} (hs : scalR x = true) (k : VR φ w x v) : VR φ' w' x v := by
  have all : ∀ {l : List AV} {us : List Value}, l.all scalar2 = true → All2 (VR φ w) l us → All2 (VR φ' w') l us := by
    intro l us hl ha
    induction ha with
    | nil => exact .nil
    | cons hx ht ih =>
      simp only [List.all_cons, Bool.and_eq_true] at hl
      exact .cons (scalar2_VR hl.1 hx) (ih hl.2)
  have k0 := k
  cases k with
  | agg cs vs hcs => exact .agg cs vs (all hs hcs)
  | _ => exact scalar2_VR hs k0
theorem scalRs_VR {l : List AV} {us : List Value} (hl : l.all scalR = true) (ha : All2 (VR φ w) l us) : All2 (VR φ' w') l us := by
  induction ha with
  | nil => exact .nil
  | cons hx ht ih =>
    simp only [List.all_cons, Bool.and_eq_true] at hl
    exact .cons (scalR_VR hl.1 hx) (ih hl.2)
theorem scalar2_one {x : AV} (hs : scalar2 x = true) : oneCell x = true := by
  cases x <;> first | rfl | (simp [scalar2, scalar1] at hs; done)
/-- a block that has come since the step's start becomes known -/
theorem know_step (H0 : HR base φ h w0) (S : Step base φ h w0 φ h w) {cb co : Nat} (hnew : w0.heap.size ≤ cb) {vs : List AV} {r : Nat × Heap} (hr : newRow h vs = some r) {arr : Array Value} {t : TypeId} {fz : Nat × Nat} (ha : w.heap[cb]? = some (.cells arr t fz)) (hf : FzOk fz arr.size)
    (hs : vs.all scalar2 = true) (hc : ∀ (i : Nat) v, vs[i]? = some v → ∃ u, arr[co + i]? = some u ∧ ∃ φ1 w1, VR φ1 w1 v u) :
    r.1 = h.next ∧ Step base φ h w0 (addE φ h.next 0 ⟨cb, co, 0, vs.length⟩) r.2 w := by
  unfold newRow at hr
  simp only [Option.bind_eq_some_iff, Option.some.injEq] at hr
  obtain ⟨cs, h1, os, ho, rfl⟩ := hr
  obtain ⟨g1, g2⟩ := fillTr_get 0 vs .nil cs 0 h1
  refine ⟨rfl, ?_⟩
  have H := S.hr
  have hn : ∀ g, φ h.next g = none := (H.fresh h.next (Nat.le_refl _)).2
  have hext : Ext φ (addE φ h.next 0 ⟨cb, co, 0, vs.length⟩) := addE_ext (hn 0)
  have inv : ∀ b g c, addE φ h.next 0 ⟨cb, co, 0, vs.length⟩ b g = some c → (b = h.next ∧ g = 0 ∧ c = ⟨cb, co, 0, vs.length⟩) ∨ (b ≠ h.next ∧ φ b g = some c) := by
    intro b g c q
    unfold addE at q
    split at q
    · rename_i p; exact .inl ⟨p.1, p.2, (Option.some.inj q).symm⟩
    · exact .inr ⟨(by rintro rfl; rw [hn] at q; cases q), q⟩
  have hcell : ∀ i lo v, cs.get i = some (lo, v) → lo = 0 ∧ vs[i]? = some v := by
    intro i lo v hi
    rw [g1] at hi
    split at hi
    · simp only [Option.map_eq_some_iff, Prod.mk.injEq, Nat.sub_zero] at hi
      obtain ⟨v', k1, rfl, rfl⟩ := hi
      exact ⟨rfl, k1⟩
    · rw [Tr.get_nil] at hi; cases hi
  refine ⟨⟨⟨?_, H.low, ?_, ?_, ?_, ?_, ?_⟩, fun b g c e => hext b g c e, S.rows, S.kept, ?_, Nat.le_succ _, ?_⟩, ?_⟩
  · intro b hb
    have hb' : h.next + 1 ≤ b := hb
    refine ⟨by show os.get b = none; rw [Tr.get_set_ne ho (by omega)]; exact (H.fresh b (by omega)).1, fun g => ?_⟩
    unfold addE
    rw [if_neg (by omega)]; exact (H.fresh b (by omega)).2 g
  · intro b g c q
    rcases inv b g c q with ⟨_, _, rfl⟩ | ⟨_, q2⟩
    · exact lt_of_heap ha
    · exact H.range _ _ _ q2
  · intro b g c b' g' c' q q' ec
    rcases inv b g c q with ⟨rfl, rfl, rfl⟩ | ⟨_, q2⟩ <;> rcases inv b' g' c' q' with ⟨rfl, rfl, rfl⟩ | ⟨_, q2'⟩
    · exact ⟨rfl, rfl, rfl⟩
    · have := H0.range _ _ _ q2'; simp only at ec; omega
    · have := H0.range _ _ _ q2; simp only at ec; omega
    · exact H.inj _ _ _ _ _ _ q2 q2' ec
  · intro b ro gen cs' q1 i lo v hi
    have q1' : os.get b = some (.cells ro gen cs') := q1
    by_cases hne : b = h.next
    · subst hne
      rw [Tr.get_set_same ho] at q1'
      cases q1'; rw [(hcell i lo v hi).1]; exact Nat.le_refl _
    · rw [Tr.get_set_ne ho hne] at q1'; exact H.los _ _ _ _ q1' _ _ _ hi
  · intro b ro gen cs' g c q1 q2
    have q1' : os.get b = some (.cells ro gen cs') := q1
    rcases inv b g c q2 with ⟨rfl, rfl, rfl⟩ | ⟨hne, q3⟩
    · rw [Tr.get_set_same ho] at q1'
      cases q1'
      refine ⟨Nat.le_refl _, fun _ => Nat.le_trans H0.low hnew, fun i lo v hi => by rw [(hcell i lo v hi).1]; exact Nat.le_refl _, arr, t, fz, ha, fun _ => hf, ?_⟩
      intro i lo v hi _ _ hie
      obtain ⟨_, hv⟩ := hcell i lo v hi
      obtain ⟨u, p1, φ1, w1, p2⟩ := hc i v hv
      have hsv := List.all_eq_true.1 hs v (List.mem_of_getElem? hv)
      exact ⟨u, by simpa using p1, scalar2_VR hsv p2, scalar2_one hsv⟩
    · rw [Tr.get_set_ne ho hne] at q1'
      obtain ⟨p1, p2, p3, arr', t', fz', pa, pf, pk⟩ := H.cells _ _ _ _ _ _ q1' q3
      refine ⟨p1, p2, p3, arr', t', fz', pa, pf, ?_⟩
      intro i lo v hi hle hao hie
      obtain ⟨u, r1, r2, r3⟩ := pk i lo v hi hle hao hie
      exact ⟨u, r1, r2.mono hext (Rows.refl _), r3⟩
  · intro b y g c q1 hy q2
    have q1' : os.get b = some y := q1
    rcases inv b g c q2 with ⟨rfl, rfl, rfl⟩ | ⟨hne, q3⟩
    · rw [Tr.get_set_same ho] at q1'
      cases q1'; cases hy
    · rw [Tr.get_set_ne ho hne] at q1'
      obtain ⟨p1, p0, ob, p2, p3⟩ := H.other _ _ _ _ q1' hy q3
      exact ⟨p1, p0, ob, p2, p3.mono hext (Rows.refl _)⟩
  · intro b g c q hlt
    rcases inv b g c q with ⟨rfl, rfl, rfl⟩ | ⟨hne, q3⟩
    · simp only at hlt; omega
    · exact ⟨g, c, q3, rfl⟩
  · intro b hb q
    have : wr (os.get b) = true := q
    rwa [Tr.get_set_ne ho (by omega)] at this
  · intro b m n cur g c e1 e2
    obtain ⟨k1, k2⟩ := S.its b m n cur g c e1 e2
    refine ⟨k1, ?_⟩
    have := H0.below e2
    show os.get b = _
    rw [Tr.get_set_ne ho (by omega)]
theorem textH_get {vs : List AV} {hb : Heap} (e : textH vs = some hb) : hb.next = 1 ∧ (∃ cs, hb.objs.get 0 = some (.cells true 0 cs) ∧ ∀ i lo v, cs.get i = some (lo, v) → lo = 0 ∧ vs[i]? = some v) ∧ (∀ b, b ≠ 0 → hb.objs.get b = none) := by
  unfold textH at e
  simp only [Option.map_eq_some_iff, Option.bind_eq_some_iff] at e
  obtain ⟨cs, h1, os, h2, rfl⟩ := e
  obtain ⟨g1, g2⟩ := fillTr_get 0 vs .nil cs 0 h1
  refine ⟨rfl, ⟨cs, Tr.get_set_same h2, fun i lo v hi => ?_⟩, fun b hb => by show os.get b = none; rw [Tr.get_set_ne h2 hb]; exact Tr.get_nil b⟩
  rw [g1] at hi
  split at hi
  · simp only [Option.map_eq_some_iff, Prod.mk.injEq, Nat.sub_zero] at hi
    obtain ⟨v', k1, rfl, rfl⟩ := hi
    exact ⟨rfl, k1⟩
  · rw [Tr.get_nil] at hi; cases hi
def textE (cb co n : Nat) : Emb := fun b g => if b = 0 ∧ g = 0 then some ⟨cb, co, 0, n⟩ else none
theorem textE_inv {cb co n b g : Nat} {c : CL} (e : textE cb co n b g = some c) : b = 0 ∧ g = 0 ∧ c = ⟨cb, co, 0, n⟩ := by
  unfold textE at e
  split at e
  · rename_i k; exact ⟨k.1, k.2, (Option.some.inj e).symm⟩
  · cases e
/-- a view of the world that knows one text alone -/
theorem text_view (H : HR base φ h w) {vs : List AV} {hb : Heap} (et : textH vs = some hb) {cb co n : Nat} (hs : vs.all scalar2 = true) {arr : Array Value} {t : TypeId} {fz : Nat × Nat} (ha : w.heap[cb]? = some (.cells arr t fz))
    (hc : ∀ (i : Nat) v, vs[i]? = some v → ∃ u, arr[co + i]? = some u ∧ VR φ w v u) : HR base (textE cb co n) hb w := by
  obtain ⟨p1, ⟨cs0, p2, p3⟩, p4⟩ := textH_get et
  refine ⟨?_, H.low, ?_, ?_, ?_, ?_, ?_⟩
  · intro b hb'
    rw [p1] at hb'
    refine ⟨p4 b (by omega), fun g' => ?_⟩
    unfold textE
    rw [if_neg (by omega)]
  · intro b g' c' e
    obtain ⟨_, _, rfl⟩ := textE_inv e
    exact lt_of_heap ha
  · intro b g' c' b2 g2 c2 e e2 _
    obtain ⟨rfl, rfl, rfl⟩ := textE_inv e
    obtain ⟨rfl, rfl, rfl⟩ := textE_inv e2
    exact ⟨rfl, rfl, rfl⟩
  · intro b ro gen' cs' e i lo v hi
    by_cases k : b = 0
    · subst k; rw [p2] at e; cases e; rw [(p3 i lo v hi).1]; exact Nat.le_refl _
    · rw [p4 b k] at e; cases e
  · intro b ro gen' cs' g' c' e e2
    obtain ⟨rfl, rfl, rfl⟩ := textE_inv e2
    rw [p2] at e; cases e
    refine ⟨Nat.le_refl _, (fun z => by cases z), fun i lo v hi => by rw [(p3 i lo v hi).1]; exact Nat.le_refl _, arr, t, fz, ha, (fun z => by cases z), ?_⟩
    intro i lo v hi _ _ hin
    obtain ⟨_, hv⟩ := p3 i lo v hi
    obtain ⟨u, k1, k2⟩ := hc i v hv
    have hsv := List.all_eq_true.1 hs v (List.mem_of_getElem? hv)
    exact ⟨u, by simpa using k1, scalar2_VR hsv k2, scalar2_one hsv⟩
  · intro b x g' c' e hx e2
    obtain ⟨rfl, rfl, rfl⟩ := textE_inv e2
    rw [p2] at e; cases e; cases hx
/-- what a call that knew one text alone did: all that was there is as it was -/
theorem text_below {vs : List AV} {hb h1 : Heap} (et : textH vs = some hb) {cb co n : Nat} {φ1 : Emb} (S : Step base (textE cb co n) hb w φ1 h1 w') : Go.RowKit.Below w.heap.size w w' := by
  obtain ⟨p1, ⟨cs0, p2, p3⟩, p4⟩ := textH_get et
  refine ⟨S.kept.os, S.kept.tape, S.kept.output, S.kept.size, fun k hk => S.kept.block k hk fun b g c e1 e2 => ?_⟩
  obtain ⟨rfl, rfl, rfl⟩ := textE_inv e1
  rw [p2] at e2
  cases e2
theorem tabA_ok {call : HookT} {f : Nat} {es : List Ent} (hcall : CallOk P base glN call) (hes : ∀ en ∈ es, entB call f en = true) : CallOk P base glN (hkF f (tabA es)) := by
  intro f' args h r e φ w us H G hl
  unfold hkF at e
  cases q : Nat.beq f' f with
  | false => rw [q] at e; cases e
  | true =>
  have q' := Nat.eq_of_beq_eq_true q
  subst q'
  rw [q, cond_true] at e
  unfold tabA at e
  split at e
  case h_2 => cases e
  rename_i a n room sz rest
  cases hc : (Nat.beq sz 1 && Nat.blt 0 n) with
  | false => rw [hc] at e; cases e
  | true =>
  rw [hc, cond_true] at e
  simp only [Bool.and_eq_true] at hc
  have hsz := Nat.eq_of_beq_eq_true hc.1
  have hn0 := Nat.le_of_ble_eq_true hc.2
  subst hsz
  simp only [Option.bind_eq_some_iff] at e
  obtain ⟨vs, hvs, en, hen, e⟩ := e
  obtain ⟨hmem, rfl, rfl⟩ := findEnt_ok hen
  have hE := hes en hmem
  unfold entB at hE
  simp only [Bool.and_eq_true] at hE
  obtain ⟨⟨⟨e1, e2⟩, e3⟩, hE⟩ := hE
  split at hE
  · cases hE
  rename_i hb et
  cases hres : call f' (.slice (some ⟨0, 0, 0, en.bs.length⟩) en.bs.length en.bs.length 1 :: en.rest) hb with
  | none => rw [hres] at hE; cases hE
  | some res =>
  rw [hres] at hE
  obtain ⟨us⟩ := us
  cases hl with
  | cons hs ht =>
  rename_i us
  cases hs with
  | slice _ ad _ _ _ cap g1 g2 g3 g4 g5 =>
  rcases g5 with g5 | ⟨g5, arr, t, fz, g6, g7, g8⟩
  · omega
  obtain ⟨c, l1, l2, l3, rfl⟩ := g5
  obtain ⟨k1, k2⟩ := loadN_each _ _ _ hvs
  simp only at g6 g7
  have hcell : ∀ (i : Nat) v, en.bs[i]? = some v → ∃ u, arr[c.co + (a.i - c.ao) + i]? = some u ∧ VR φ w v u := by
    intro i v hv
    have := k2 i v hv
    obtain ⟨u, m1, m2, _⟩ := loadC_cell H ⟨c, l1, l2, l3, rfl⟩ this
    refine ⟨u, ?_, m2⟩
    rw [add_plain] at m1
    simp only [World.cell?, g6, Option.isSome_none, Bool.false_eq_true, if_false] at m1
    simpa using m1
  have Hb : HR base (textE c.cb (c.co + (a.i - c.ao)) n) hb w := text_view H et e2 g6 hcell
  have Gb : GlobOk glN (textE c.cb (c.co + (a.i - c.ao)) n) w := by
    refine ⟨(fun _ _ z => by cases z), fun p hp => ⟨(G.stat p hp).1, fun b g c' z => ?_⟩⟩
    obtain ⟨_, _, rfl⟩ := textE_inv z
    have := (G.stat p hp).2 a.b a.g c l1
    exact this
  have hL : LR (textE c.cb (c.co + (a.i - c.ao)) n) ⟨0, 0, 0, n⟩ ⟨c.cb, c.co + (a.i - c.ao), none⟩ := ⟨⟨c.cb, c.co + (a.i - c.ao), 0, n⟩, by unfold textE; rw [if_pos ⟨rfl, rfl⟩], rfl, Nat.le_refl _, by simp⟩
  have hA : All2 (VR (textE c.cb (c.co + (a.i - c.ao)) n) w) (.slice (some ⟨0, 0, 0, en.bs.length⟩) en.bs.length en.bs.length 1 :: en.rest) (Array.mk (Value.slice (some ⟨c.cb, c.co + (a.i - c.ao), none⟩) n cap :: us)).toList := by
    rw [k1]
    refine .cons (.slice _ _ n n 1 cap (Nat.le_refl _) (by omega) (by decide) (by simp) (.inr ⟨hL, arr, t, fz, g6, g7, g8⟩)) (scalRs_VR e1 ht)
  -- what comes of the call
  have fin : ∀ (v : Value) (φ1 : Emb) (w1 : World), Step base (textE c.cb (c.co + (a.i - c.ao)) n) hb w φ1 res.2 w1 → VR φ1 w1 res.1 v → ∃ φ', Step base φ h w φ' r.2 w1 ∧ VR φ' w1 r.1 v := by
    intro v φ1 w1 S hv
    have B := text_below et S
    have S0 := below_step H B
    obtain ⟨r1, h1⟩ := res
    unfold bytesR at hE
    split at hE
    case h_2 => cases hE
    rename_i a1 k room1 sz1 e1' h1' heq
    cases heq
    simp only [Bool.and_eq_true, beq_iff_eq] at hE
    obtain ⟨rfl, hE⟩ := hE
    cases hv with
    | tup _ ts hts =>
    cases hts with
    | cons hsl hts =>
    cases hts with
    | cons hint hts =>
    cases hts
    cases hint
    unfold ansEnt at e
    cases a1 with
    | none =>
      simp only at hE
      cases ho : en.out with
      | cons v l => rw [ho] at hE; cases hE
      | nil =>
      rw [ho] at e
      cases e
      cases hsl
      exact ⟨φ, S0, .tup _ _ (.cons .nilSlice (.cons (.int _ _) .nil))⟩
    | some a1 =>
      simp only [Bool.and_eq_true, Nat.beq_eq, Bool.not_eq_true', Nat.blt_eq] at hE
      obtain ⟨⟨⟨⟨rfl, hk0⟩, hk⟩, hab⟩, hld⟩ := hE
      have hab' : a1.b ≠ 0 := by
        intro z
        rw [z] at hab
        cases hab
      split at hld
      case h_2 => cases hld
      rename_i vs1 hvs1
      have hvs1e := sameR_eq hld
      subst hvs1e
      cases ho : en.out with
      | nil => rw [ho] at hk; simp at hk; omega
      | cons v0 l0 =>
      rw [ho] at e
      simp only [Option.map_eq_some_iff] at e
      obtain ⟨rr, hrr, rfl⟩ := e
      rw [← ho] at hrr ⊢
      cases hsl with
      | slice _ ad1 _ _ _ cap1 z1 z2 z3 z4 z5 =>
      rcases z5 with z5 | ⟨z5, arr1, t1, fz1, z6, z7, z8⟩
      · omega
      obtain ⟨n1, n2⟩ := loadN_each _ _ _ hvs1
      obtain ⟨c1, y1, y2, y3, y4⟩ := id z5
      have hnew : w.heap.size ≤ ad1.block := by
        rcases Nat.lt_or_ge ad1.block w.heap.size with z | z
        · obtain ⟨g0, c0, x1, x2⟩ := S.newer _ _ _ y1 (by rw [y4] at z; exact z)
          obtain ⟨x, _⟩ := textE_inv x1
          exact absurd x hab'
        · exact z
      obtain ⟨m1, m2⟩ := know_step H S0 (cb := ad1.block) (co := ad1.off) hnew hrr z6 z8 e3 (fun i v hv => by
        obtain ⟨u, x1, x2, _⟩ := loadC_cell S.hr z5 (n2 i v hv)
        rw [z5.form, add_plain] at x1
        simp only [World.cell?, z6, Option.isSome_none, Bool.false_eq_true, if_false] at x1
        exact ⟨u, by simpa using x1, φ1, w1, x2⟩)
      refine ⟨_, m2, ?_⟩
      have hadf : ad1 = ⟨ad1.block, ad1.off, none⟩ := z5.form
      refine .tup _ _ (.cons ?_ (.cons (.int _ _) .nil))
      rw [hk, m1]
      refine .slice _ ad1 _ _ 1 cap1 (Nat.le_refl _) (by omega) (by decide) (by simp) (.inr ⟨⟨_, addE_same _ _ _ _, rfl, Nat.le_refl _, ?_⟩, arr1, t1, fz1, z6, z7, z8⟩)
      rw [hadf]; simp
  rcases hcall f' _ hb res hres _ w _ Hb Gb hA with ⟨c1, c2⟩ | ⟨v, φ1, w1, c1, s, hv⟩
  · refine .inl ⟨c1, c2.mono ?_⟩
    rintro _ w1 ⟨v, φ1, rfl, s, hv⟩
    obtain ⟨φ', x1, x2⟩ := fin v φ1 w1 s hv
    exact ⟨v, φ', rfl, x1, x2⟩
  · obtain ⟨φ', x1, x2⟩ := fin v φ1 w1 s hv
    exact .inr ⟨v, φ', w1, c1, x1, x2⟩
end
end Go.Vai
