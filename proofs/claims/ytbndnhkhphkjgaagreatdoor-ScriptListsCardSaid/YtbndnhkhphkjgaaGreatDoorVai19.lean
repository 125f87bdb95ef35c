/- The abstract machine: checks that a kernel can do of what comes back to a loop's head. -/
import Derived.Test.YtbndnhkhphkjgaaGreatDoorVai18
namespace Go.Vai
set_option linter.unusedVariables false
set_option linter.unusedSimpArgs false
set_option linter.unusedSectionVars false
variable [Lane]
variable {P : Program} {base : Nat} {φ φ' φ'' : Emb} {h h' h'' : Heap} {w w' w'' : World}
namespace Tr
variable {α : Type}
def okV (p : α → α → Bool) (x y : Option α) : Bool :=
  match x with
  | none => true
  | some x => (match y with | some y => p x y | none => false)
/-- all that stands in one map stands in another, alike -/
def sub (p : α → α → Bool) : Tr α → Tr α → Bool
  | .nil, _ => true
  | .node v ⟨c0, c1, c2, c3, c4, c5, c6, c7, c8, c9, c10, c11, c12, c13, c14, c15⟩, t => okV p v (rootB.f t) && sub p c0 ((chB 0).f t) && sub p c1 ((chB 1).f t) && sub p c2 ((chB 2).f t) && sub p c3 ((chB 3).f t) && sub p c4 ((chB 4).f t) && sub p c5 ((chB 5).f t) && sub p c6 ((chB 6).f t) && sub p c7 ((chB 7).f t) && sub p c8 ((chB 8).f t) && sub p c9 ((chB 9).f t) && sub p c10 ((chB 10).f t) && sub p c11 ((chB 11).f t) && sub p c12 ((chB 12).f t) && sub p c13 ((chB 13).f t) && sub p c14 ((chB 14).f t) && sub p c15 ((chB 15).f t)
theorem sub_ch {p : α → α → Bool} {s t : Tr α} (e : sub p s t = true) {d : Nat} (h : d < 16) : sub p ((chB d).f s) ((chB d).f t) = true := by
  cases s with
  | nil => rw [ch_nil]; unfold sub; rfl
  | node v c =>
    obtain ⟨c0, c1, c2, c3, c4, c5, c6, c7, c8, c9, c10, c11, c12, c13, c14, c15⟩ := c
    unfold sub at e
    simp only [Bool.and_eq_true] at e
    obtain ⟨⟨⟨⟨⟨⟨⟨⟨⟨⟨⟨⟨⟨⟨⟨⟨e, q0⟩, q1⟩, q2⟩, q3⟩, q4⟩, q5⟩, q6⟩, q7⟩, q8⟩, q9⟩, q10⟩, q11⟩, q12⟩, q13⟩, q14⟩, q15⟩ := e
    rcases lt16 h with rfl|rfl|rfl|rfl|rfl|rfl|rfl|rfl|rfl|rfl|rfl|rfl|rfl|rfl|rfl|rfl
    · exact q0
    · exact q1
    · exact q2
    · exact q3
    · exact q4
    · exact q5
    · exact q6
    · exact q7
    · exact q8
    · exact q9
    · exact q10
    · exact q11
    · exact q12
    · exact q13
    · exact q14
    · exact q15
theorem sub_root {p : α → α → Bool} {s t : Tr α} (e : sub p s t = true) : okV p (rootB.f s) (rootB.f t) = true := by
  cases s with
  | nil => rfl
  | node v c =>
    obtain ⟨c0, c1, c2, c3, c4, c5, c6, c7, c8, c9, c10, c11, c12, c13, c14, c15⟩ := c
    unfold sub at e
    simp only [Bool.and_eq_true] at e
    obtain ⟨⟨⟨⟨⟨⟨⟨⟨⟨⟨⟨⟨⟨⟨⟨⟨e, _⟩, _⟩, _⟩, _⟩, _⟩, _⟩, _⟩, _⟩, _⟩, _⟩, _⟩, _⟩, _⟩, _⟩, _⟩, _⟩ := e
    exact e
theorem sub_get_n {p : α → α → Bool} : ∀ (n k : Nat) (s t : Tr α), sub p s t = true → okV p ((getB n k).f s) ((getB n k).f t) = true
  | 0, k, s, t, e => rfl
  | n + 1, k, s, t, e => by
    by_cases h0 : k = 0
    · subst h0; rw [getB_zero]; exact sub_root e
    · rw [getB_pos n h0, getB_pos n h0]
      exact sub_get_n n _ _ _ (sub_ch e (Nat.mod_lt _ (by decide)))
theorem sub_get {p : α → α → Bool} {s t : Tr α} (e : sub p s t = true) {k : Nat} {x : α} (h : s.get k = some x) : ∃ y, t.get k = some y ∧ p x y = true := by
  have := sub_get_n 44 k s t e
  change okV p (s.get k) (t.get k) = true at this
  rw [h] at this
  unfold okV at this
  simp only at this
  split at this
  · rename_i y hy; exact ⟨y, hy, this⟩
  · cases this
end Tr
def sameC (x y : Nat × AV) : Bool := Nat.beq x.1 y.1 && (same1 x.2 y.2 && plain1 x.2)
def sameE : List (AV × AV) → List (AV × AV) → Bool
  | [], [] => true
  | x :: l, y :: m => (same1 x.1 y.1 && same1 x.2 y.2 && plain1 x.1 && plain1 x.2) && sameE l m
  | _, _ => false
theorem sameE_eq : ∀ {l m : List (AV × AV)}, sameE l m = true → l = m ∧ ∀ e ∈ l, plain1 e.1 = true ∧ plain1 e.2 = true
  | [], [], _ => ⟨rfl, by simp⟩
  | [], _ :: _, e => by simp [sameE] at e
  | _ :: _, [], e => by simp [sameE] at e
  | (a, b) :: l, (c, d) :: m, e => by
    simp only [sameE, Bool.and_eq_true] at e
    obtain ⟨⟨⟨⟨e1, e2⟩, e3⟩, e4⟩, e5⟩ := e
    obtain ⟨q1, q2⟩ := sameE_eq e5
    rw [same1_eq e1, same1_eq e2, q1]
    refine ⟨rfl, ?_⟩
    intro x hx
    rcases List.mem_cons.1 hx with rfl | hx
    · exact ⟨by rw [← same1_eq e1]; exact e3, by rw [← same1_eq e2]; exact e4⟩
    · exact q2 x (by rw [q1]; exact hx)
def backOb (ib b : Nat) (x y : Option AObj) : Bool :=
  match x with
  | none => true
  | some (.cells ro gen cs) => (match y with | some (.cells ro2 gen2 cs2) => (ro == ro2 && Nat.beq gen gen2) && Tr.sub sameC cs cs2 | _ => false)
  | some (.map es) => !Nat.beq b ib && (match y with | some (.map es2) => sameE es es2 | _ => false)
  | some (.mapit m n cur) => Nat.beq b ib && cur.isNone && (match y with | some (.mapit m2 n2 _) => Nat.beq m m2 && Nat.beq n n2 | _ => false)
  | _ => false
def backHB (ib : Nat) (h h2 : Heap) : Bool := (List.range h.next).all fun b => backOb ib b (h.objs.get b) (h2.objs.get b)
def backFB (N : Nat) (fr fr2 : Fr) : Bool := (List.range N).all fun t =>
  match fr.get t with
  | none => (fr2.get t).isNone
  | some .any => true
  | some v => (match fr2.get t with | some v2 => same1 v v2 && plain1 v | none => false)
theorem backHB_ok {ib : Nat} {h h2 : Heap} (hf : ∀ b, h.next ≤ b → h.objs.get b = none) (hi : ∃ m n, h.objs.get ib = some (.mapit m n none)) (e : backHB ib h h2 = true) : BackH ib h h2 := by
  have key : ∀ b x, h.objs.get b = some x → backOb ib b (some x) (h2.objs.get b) = true := by
    intro b x hx
    have hb : b < h.next := by
      rcases Nat.lt_or_ge b h.next with q | q
      · exact q
      · rw [hf b q] at hx; cases hx
    have := List.all_eq_true.1 e b (List.mem_range.2 hb)
    rwa [hx] at this
  refine ⟨?_, ?_, ?_⟩
  · intro b ro gen cs hx
    have q := key b _ hx
    unfold backOb at q
    simp only at q
    split at q
    case h_2 => cases q
    rename_i ro2 gen2 cs2 hy
    simp only [Bool.and_eq_true, beq_iff_eq, Nat.beq_eq] at q
    obtain ⟨⟨rfl, rfl⟩, q⟩ := q
    refine ⟨cs2, hy, fun i lo v hi => ?_⟩
    obtain ⟨y, k1, k2⟩ := Tr.sub_get q hi
    unfold sameC at k2
    simp only [Bool.and_eq_true, Nat.beq_eq] at k2
    obtain ⟨k2, k3, k4⟩ := k2
    have k3 := same1_eq k3
    refine ⟨?_, k4⟩
    rw [k1]
    obtain ⟨y1, y2⟩ := y
    simp only at k2 k3
    rw [k2, k3]
  · intro b x hx hnc hne
    have q := key b _ hx
    unfold backOb at q
    cases x with
    | cells => cases hnc
    | iter => cases q
    | viter => cases q
    | miter => cases q
    | map es =>
      simp only [Bool.and_eq_true] at q
      obtain ⟨_, q⟩ := q
      split at q
      case h_2 => cases q
      rename_i es2 hy
      obtain ⟨q1, q2⟩ := sameE_eq q
      subst q1
      exact ⟨hy, es, rfl, q2⟩
    | mapit m n cur =>
      simp only [Bool.and_eq_true, Nat.beq_eq] at q
      exact absurd q.1.1 hne
  · obtain ⟨m, n, hi⟩ := hi
    have q := key ib _ hi
    unfold backOb at q
    simp only [Bool.and_eq_true, Nat.beq_eq] at q
    obtain ⟨_, q⟩ := q
    split at q
    case h_2 => cases q
    rename_i m2 n2 cur2 hy
    simp only [Bool.and_eq_true, Nat.beq_eq] at q
    obtain ⟨rfl, rfl⟩ := q
    exact ⟨m, n, cur2, hi, hy⟩
theorem backFB_ok {N : Nat} {fr fr2 : Fr} (e : backFB N fr fr2 = true) : BackF N fr fr2 := by
  intro t ht
  have q := List.all_eq_true.1 e t (List.mem_range.2 ht)
  split at q
  · rename_i hx
    right
    rw [hx]
    refine ⟨?_, rfl⟩
    simpa using q
  · rename_i hx; exact .inl hx
  · rename_i v hne hx
    split at q
    · rename_i v2 hy
      simp only [Bool.and_eq_true] at q
      right
      rw [hx, hy, same1_eq q.1]
      exact ⟨rfl, by rw [← same1_eq q.1]; exact q.2⟩
    · cases q
/-- a frame of which less is known -/
def anyFr : List Nat → Fr → Option Fr
  | [], fr => some fr
  | t :: l, fr => (fr.set t .any).bind (anyFr l)
theorem anyFr_get : ∀ {l : List Nat} {fr fr' : Fr}, anyFr l fr = some fr' → ∀ t, fr'.get t = some .any ∧ t ∈ l ∨ fr'.get t = fr.get t
  | [], fr, fr', e, t => by cases e; exact .inr rfl
  | s :: l, fr, fr', e, t => by
    simp only [anyFr, Option.bind_eq_some_iff] at e
    obtain ⟨f1, e1, e2⟩ := e
    rcases anyFr_get e2 t with ⟨q1, q2⟩ | q
    · exact .inl ⟨q1, by simp [q2]⟩
    · rw [q, Tr.get_set e1]
      by_cases k : t = s
      · rw [if_pos k]; exact .inl ⟨rfl, by simp [k]⟩
      · rw [if_neg k]; exact .inr rfl
theorem FR.any {N : Nat} {fr fr' : Fr} {a : Act} {l : List Nat} (f : FR N φ w fr a) (e : anyFr l fr = some fr') (hl : ∀ t ∈ l, t < N) : FR N φ w fr' a := by
  refine ⟨f.size, fun t ht => ?_, fun t ht => ?_⟩
  · rcases anyFr_get e t with ⟨q, _⟩ | q
    · rw [q]; exact .inl rfl
    · rw [q]; exact f.get t ht
  · rcases anyFr_get e t with ⟨_, q⟩ | q
    · have := hl t q; omega
    · rw [q]; exact f.out t ht
end Go.Vai
