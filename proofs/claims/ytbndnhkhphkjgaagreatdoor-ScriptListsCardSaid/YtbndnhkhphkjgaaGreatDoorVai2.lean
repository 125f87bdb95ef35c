/- The abstract machine: what its memory says of the model's world, and what stays so. -/
import Derived.Test.YtbndnhkhphkjgaaGreatDoorVai1
import Derived.Below
namespace Go.Vai
set_option linter.unusedVariables false
set_option linter.unusedSimpArgs false
set_option linter.unusedSectionVars false
variable [Lane]

namespace Tr
variable {α : Type}
theorem lt16 {d : Nat} (h : d < 16) : d = 0 ∨ d = 1 ∨ d = 2 ∨ d = 3 ∨ d = 4 ∨ d = 5 ∨ d = 6 ∨ d = 7 ∨ d = 8 ∨ d = 9 ∨ d = 10 ∨ d = 11 ∨ d = 12 ∨ d = 13 ∨ d = 14 ∨ d = 15 := by omega
theorem ch_set (t : Tr α) (g : Tr α → Tr α) {d : Nat} (h : d < 16) : (chB d).f ((setB d).f t g) = g ((chB d).f t) := by
  rcases lt16 h with rfl|rfl|rfl|rfl|rfl|rfl|rfl|rfl|rfl|rfl|rfl|rfl|rfl|rfl|rfl|rfl <;> rcases t with _ | ⟨v, ⟨⟩⟩ <;> rfl
theorem ch_set_ne (t : Tr α) (g : Tr α → Tr α) {d d' : Nat} (h : d < 16) (h' : d' < 16) (hne : d' ≠ d) : (chB d').f ((setB d).f t g) = (chB d').f t := by
  rcases lt16 h with rfl|rfl|rfl|rfl|rfl|rfl|rfl|rfl|rfl|rfl|rfl|rfl|rfl|rfl|rfl|rfl <;> rcases lt16 h' with rfl|rfl|rfl|rfl|rfl|rfl|rfl|rfl|rfl|rfl|rfl|rfl|rfl|rfl|rfl|rfl <;>
    first | exact absurd rfl hne | (rcases t with _ | ⟨v, ⟨⟩⟩ <;> rfl)
theorem root_set (t : Tr α) (g : Tr α → Tr α) {d : Nat} (h : d < 16) : rootB.f ((setB d).f t g) = rootB.f t := by
  rcases lt16 h with rfl|rfl|rfl|rfl|rfl|rfl|rfl|rfl|rfl|rfl|rfl|rfl|rfl|rfl|rfl|rfl <;> rcases t with _ | ⟨v, ⟨⟩⟩ <;> rfl
theorem root_top (t : Tr α) (x : α) : rootB.f (topB.f x t) = some x := by rcases t with _ | ⟨v, ⟨⟩⟩ <;> rfl
theorem ch_top (t : Tr α) (x : α) {d : Nat} (h : d < 16) : (chB d).f (topB.f x t) = (chB d).f t := by
  rcases lt16 h with rfl|rfl|rfl|rfl|rfl|rfl|rfl|rfl|rfl|rfl|rfl|rfl|rfl|rfl|rfl|rfl <;> rcases t with _ | ⟨v, ⟨⟩⟩ <;> rfl
theorem getB_zero (n : Nat) : (getB (α := α) (n + 1) 0) = rootB := rfl
theorem getB_pos (n : Nat) {k : Nat} (h : k ≠ 0) (t : Tr α) : (getB (n + 1) k).f t = (getB n ((k - 1) / 16)).f ((chB ((k - 1) % 16)).f t) := by
  have e : Nat.beq k 0 = false := by cases k with
    | zero => exact absurd rfl h
    | succ k => rfl
  simp only [getB, e, cond_false]
theorem putB_pos (n : Nat) {k : Nat} (h : k ≠ 0) (x : α) (t : Tr α) : (putB (n + 1) k).f x t = (setB ((k - 1) % 16)).f t ((putB n ((k - 1) / 16)).f x) := by
  have e : Nat.beq k 0 = false := by cases k with
    | zero => exact absurd rfl h
    | succ k => rfl
  simp only [putB, e, cond_false]
theorem get_put_n : ∀ (n : Nat) (t : Tr α) (k : Nat) (x : α), k + 1 < 2 ^ n → ∀ k', (getB n k').f ((putB n k).f x t) = if k' = k then some x else (getB n k').f t
  | 0, t, k, x, h, k' => by simp at h
  | n + 1, t, k, x, h, k' => by
    rw [Nat.pow_succ] at h
    by_cases h0 : k = 0
    · subst h0
      show (getB (n + 1) k').f (topB.f x t) = _
      by_cases e : k' = 0
      · subst e; rw [getB_zero, root_top, if_pos rfl]
      · rw [getB_pos n e, getB_pos n e, ch_top t x (Nat.mod_lt _ (by decide)), if_neg e]
    · rw [putB_pos n h0]
      by_cases e : k' = 0
      · subst e; rw [getB_zero, root_set t _ (Nat.mod_lt _ (by decide)), if_neg (Ne.symm h0)]
      · rw [getB_pos n e, getB_pos n e]
        by_cases e1 : (k' - 1) % 16 = (k - 1) % 16
        · rw [e1, ch_set t _ (Nat.mod_lt _ (by decide)), get_put_n n _ _ x (by omega)]
          by_cases e2 : k' = k
          · subst e2; rw [if_pos rfl, if_pos rfl]
          · rw [if_neg e2, if_neg (by omega)]
        · rw [ch_set_ne t _ (Nat.mod_lt _ (by decide)) (Nat.mod_lt _ (by decide)) e1, if_neg (fun q => e1 (by rw [q]))]
theorem ch_nil (d : Nat) : (chB d).f (Tr.nil : Tr α) = .nil := by unfold chB; split <;> rfl
theorem getB_nil : ∀ (n k : Nat), (getB n k).f (Tr.nil : Tr α) = none
  | 0, k => rfl
  | n + 1, k => by
    by_cases e : k = 0
    · subst e; rfl
    · rw [getB_pos n e, ch_nil]; exact getB_nil n _
theorem get_nil (k : Nat) : (Tr.nil : Tr α).get k = none := getB_nil 44 k
theorem get_set {t t' : Tr α} {k : Nat} {x : α} (h : t.set k x = some t') (k' : Nat) : t'.get k' = if k' = k then some x else t.get k' := by
  unfold set at h
  cases hk : Nat.blt k 1099511627776 with
  | false => rw [hk] at h; cases h
  | true =>
    rw [hk, cond_true] at h
    rw [← Option.some.inj h]
    exact get_put_n 44 t k x (by have := Nat.le_of_ble_eq_true hk; omega) k'
theorem get_set_same {t t' : Tr α} {k : Nat} {x : α} (h : t.set k x = some t') : t'.get k = some x := by rw [get_set h, if_pos rfl]
theorem get_set_ne {t t' : Tr α} {k k' : Nat} {x : α} (h : t.set k x = some t') (hne : k' ≠ k) : t'.get k' = t.get k' := by rw [get_set h, if_neg hne]
end Tr

/-- two lists, place by place -/
inductive All2 {α β : Type} (R : α → β → Prop) : List α → List β → Prop where
  | nil : All2 R [] []
  | cons {a : α} {b : β} {l : List α} {m : List β} (h : R a b) (t : All2 R l m) : All2 R (a :: l) (b :: m)
namespace All2
variable {α β : Type} {R S : α → β → Prop}
theorem length {l : List α} {m : List β} (h : All2 R l m) : l.length = m.length := by
  induction h with
  | nil => rfl
  | cons _ _ ih => simp [ih]
theorem imp (k : ∀ a b, R a b → S a b) {l : List α} {m : List β} (h : All2 R l m) : All2 S l m := by
  induction h with
  | nil => exact .nil
  | cons h _ ih => exact .cons (k _ _ h) ih
theorem append {l l' : List α} {m m' : List β} (h : All2 R l m) (h' : All2 R l' m') : All2 R (l ++ l') (m ++ m') := by
  induction h with
  | nil => exact h'
  | cons h _ ih => exact .cons h ih
theorem get {l : List α} {m : List β} (h : All2 R l m) : ∀ (i : Nat) (a : α), l[i]? = some a → ∃ b, m[i]? = some b ∧ R a b := by
  induction h with
  | nil => intro i a e; simp at e
  | cons h _ ih =>
    intro i a e
    cases i with
    | zero => simp at e; subst e; exact ⟨_, rfl, h⟩
    | succ i => simp at e; obtain ⟨b, h1, h2⟩ := ih i a e; exact ⟨b, by simpa using h1, h2⟩
theorem take {l : List α} {m : List β} (h : All2 R l m) : ∀ n, All2 R (l.take n) (m.take n) := by
  induction h with
  | nil => intro n; simp; exact .nil
  | cons h _ ih => intro n; cases n with
    | zero => exact .nil
    | succ n => exact .cons h (ih n)
theorem drop {l : List α} {m : List β} (h : All2 R l m) : ∀ n, All2 R (l.drop n) (m.drop n) := by
  induction h with
  | nil => intro n; simp; exact .nil
  | cons h t ih => intro n; cases n with
    | zero => exact .cons h t
    | succ n => exact ih n
theorem map {γ : Type} {f : γ → α} {g : γ → β} (k : ∀ c, R (f c) (g c)) : ∀ l : List γ, All2 R (l.map f) (l.map g)
  | [] => .nil
  | c :: l => .cons (k c) (map k l)
end All2

/-- where a generation of a block lies: the model's block, the offset there of the first place, that place, the end -/
structure CL where
  cb : Nat
  co : Nat
  ao : Nat
  e : Nat
abbrev Emb := Nat → Nat → Option CL
def LR (φ : Emb) (a : Loc) (ad : Addr) : Prop :=
  ∃ c, φ a.b a.g = some c ∧ a.e = c.e ∧ c.ao ≤ a.i ∧ ad = ⟨c.cb, c.co + (a.i - c.ao), none⟩
/-- no cell of a row is frozen -/
def FzOk (fz : Nat × Nat) (n : Nat) : Prop := fz.1 ≤ fz.2 ∧ ∀ o, o < n → ¬ (fz.1 ≤ o ∧ o < fz.2)
/-- a row of the model that has so many cells, which may be written -/
def RowAt (w : World) (cb n : Nat) : Prop := ∃ arr t fz, w.heap[cb]? = some (.cells arr t fz) ∧ n ≤ arr.size ∧ FzOk fz arr.size
inductive VR (φ : Emb) (w : World) : AV → Value → Prop where
  | u : VR φ w .u undef
  | bool (b : Bool) : VR φ w (.bool b) (.bool b)
  | int (k : IntKind) (n : Int) : VR φ w (.int k n) (.int k n)
  | str (l : List UInt8) : VR φ w (.str l) (.string ⟨⟨l⟩⟩)
  | nilPtr : VR φ w (.ptr none) (.pointer none)
  | ptr (a : Loc) (ad : Addr) (h : LR φ a ad) : VR φ w (.ptr (some a)) (.pointer (some ad))
  | nilSlice : VR φ w (.slice none 0 0 0) (.slice none 0 0)
  | slice (a : Loc) (ad : Addr) (n r sz cap : Nat) (hn : n ≤ r) (hr : r ≤ cap) (hz : 0 < sz) (he : a.i + r * sz ≤ a.e) (h : cap = 0 ∨ (LR φ a ad ∧ RowAt w ad.block (ad.off + cap * sz))) : VR φ w (.slice (some a) n r sz) (.slice (some ad) n cap)
  | nilMap : VR φ w (.map none) (.map none)
  | map (r : Nat) (c : CL) (h : φ r 0 = some c) : VR φ w (.map (some r)) (.map (some c.cb))
  | nilf : VR φ w .nilf .nilFunc
  | nilI : VR φ w .nilI .nilIface
  | func (f : Nat) (cs : List AV) (vs : List Value) (h : All2 (VR φ w) cs vs) : VR φ w (.func f cs) (.func (.func f) #[] ⟨vs⟩)
  | agg (cs : List AV) (vs : List Value) (h : All2 (VR φ w) cs vs) : VR φ w (.agg cs) (.agg ⟨vs⟩)
  | tup (cs : List AV) (vs : List Value) (h : All2 (VR φ w) cs vs) : VR φ w (.tup cs) (.tuple ⟨vs⟩)
  | vec (l : List AV) (x : AV) (v : Value) (h : l[Lane.l]? = some x) (hs : lane1 x = true) (k : VR φ w x v) : VR φ w (.vec l) v
  | arg (i : Nat) : VR φ w (.arg i) (.int .i64 (Lane.arg i))
  | yld (b : Nat) (c : CL) (h : φ b 0 = some c) : VR φ w (.yld b) (.func (.yield c.cb) #[] #[])

theorem All2.impM {α β : Type} {R S : α → β → Prop} {l : List α} {m : List β} (h : All2 R l m) (k : ∀ a b, R a b → S a b) : All2 S l m := h.imp k

/-- more places are known, rows stay as long as they are -/
def Ext (φ φ' : Emb) : Prop := ∀ b g c, φ b g = some c → φ' b g = some c
def Rows (w w' : World) : Prop := ∀ cb n, RowAt w cb n → RowAt w' cb n
theorem Ext.refl (φ : Emb) : Ext φ φ := fun _ _ _ h => h
theorem Ext.trans {φ φ' φ'' : Emb} (h : Ext φ φ') (k : Ext φ' φ'') : Ext φ φ'' := fun b g c e => k b g c (h b g c e)
theorem Rows.refl (w : World) : Rows w w := fun _ _ h => h
theorem Rows.trans {w w' w'' : World} (h : Rows w w') (k : Rows w' w'') : Rows w w'' := fun c n e => k c n (h c n e)
theorem LR.mono {φ φ' : Emb} (h : Ext φ φ') {a : Loc} {ad : Addr} (k : LR φ a ad) : LR φ' a ad := by
  obtain ⟨c, h1, h2⟩ := k; exact ⟨c, h _ _ _ h1, h2⟩
theorem VR.mono {φ φ' : Emb} {w w' : World} (h : Ext φ φ') (hr : Rows w w') {x : AV} {v : Value} (k : VR φ w x v) : VR φ' w' x v := by
  have key : ∀ (n : Nat) (x : AV) (v : Value), SizeOf.sizeOf x ≤ n → VR φ w x v → VR φ' w' x v := by
    intro n
    induction n with
    | zero => intro x v hs; cases x <;> simp at hs
    | succ n ih =>
      intro x v hs k
      have all : ∀ (cs : List AV) (vs : List Value), SizeOf.sizeOf cs ≤ n → All2 (VR φ w) cs vs → All2 (VR φ' w') cs vs := by
        intro cs vs hc ha
        induction ha with
        | nil => exact .nil
        | cons hx ht iht =>
          simp at hc
          exact .cons (ih _ _ (by omega) hx) (iht (by omega))
      cases k with
      | u => exact .u
      | bool b => exact .bool b
      | int k n => exact .int k n
      | str l => exact .str l
      | nilPtr => exact .nilPtr
      | ptr a ad hl => exact .ptr a ad (hl.mono h)
      | nilSlice => exact .nilSlice
      | slice a ad n r sz cap hn hr' hz he hh => exact .slice a ad n r sz cap hn hr' hz he (hh.imp id fun ⟨x, y⟩ => ⟨x.mono h, hr _ _ y⟩)
      | nilMap => exact .nilMap
      | map r c hc => exact .map r c (h _ _ _ hc)
      | nilf => exact .nilf
      | nilI => exact .nilI
      | func f cs vs ha => exact .func f cs vs (all cs vs (by simp at hs; omega) ha)
      | agg cs vs ha => exact .agg cs vs (all cs vs (by simp at hs; omega) ha)
      | tup cs vs ha => exact .tup cs vs (all cs vs (by simp at hs; omega) ha)
      | vec l x v hx h1 k1 => exact .vec l x v hx h1 (ih _ _ (by have := List.sizeOf_lt_of_mem (List.mem_of_getElem? hx); simp at hs; omega) k1)
      | arg i => exact .arg i
      | yld b c hc => exact .yld b c (h _ _ _ hc)
  exact key _ x v (Nat.le_refl _) k
theorem All2.mono {φ φ' : Emb} {w w' : World} (h : Ext φ φ') (hr : Rows w w') {cs : List AV} {vs : List Value} (k : All2 (VR φ w) cs vs) : All2 (VR φ' w') cs vs := k.imp fun _ _ => VR.mono h hr

/-- an entry of a map -/
structure EntR (φ : Emb) (w : World) (e : AV × AV) (m : MapEntry) : Prop where
  key : VR φ w e.1 m.key
  val : VR φ w e.2 m.val
/-- an object that is no row -/
inductive ObjR (φ : Emb) (w : World) : AObj → Obj → Prop where
  | iter (s : List UInt8) (pos : Nat) : ObjR φ w (.iter s pos) (.stringIter ⟨⟨s⟩⟩ pos)
  | viter (ss : List AV) (s : List UInt8) (pos : Nat) (h : ss[Lane.l]? = some (.str s)) : ObjR φ w (.viter ss pos) (.stringIter ⟨⟨s⟩⟩ pos)
  | map (es : List (AV × AV)) (ms : Array MapEntry) (h : All2 (EntR φ w) es ms.toList) (hb : ∀ (i : Nat) (m : MapEntry), ms[i]? = some m → m.born = i) : ObjR φ w (.map es) (.map ms ms.size)
  | mapit (m n : Nat) (c : CL) (seen : Array Nat) (cur : Option Nat) (h : φ m 0 = some c) (hs : ∀ s ∈ seen.toList, s < n) (hd : seen.toList.Nodup) (hc : ∀ j, cur = some j → seen.back? = some j) :
    ObjR φ w (.mapit m n cur) (.mapIter (some c.cb) n seen n)
  | miter (m n : Nat) (c : CL) (seen : Bool) (h : φ m 0 = some c) (hn : n ≤ 1) : ObjR φ w (.miter m n seen) (.mapIter (some c.cb) n (if seen then #[0] else #[]) n)
theorem ObjR.mono {φ φ' : Emb} {w w' : World} (h : Ext φ φ') (hr : Rows w w') {x : AObj} {o : Obj} (k : ObjR φ w x o) : ObjR φ' w' x o := by
  cases k with
  | iter s pos => exact .iter s pos
  | viter ss s pos q => exact .viter ss s pos q
  | miter m n c seen hm hn => exact .miter m n c seen (h _ _ _ hm) hn
  | mapit m n c seen cur hm hs hd hc => exact .mapit m n c seen cur (h _ _ _ hm) hs hd hc
  | map es ms hk hb => exact .map es ms (hk.imp fun _ _ q => ⟨q.key.mono h hr, q.val.mono h hr⟩) hb
theorem ObjR.notCells {φ : Emb} {w : World} {x : AObj} {arr : Array Value} {t : TypeId} {fz : Nat × Nat} (k : ObjR φ w x (.cells arr t fz)) : False := by cases k
def isCells : AObj → Bool
  | .cells _ _ _ => true
  | _ => false
/-- what the machine's memory says of a world; blocks below 'base' are written by nobody -/
structure HR (base : Nat) (φ : Emb) (h : Heap) (w : World) : Prop where
  fresh : ∀ b, h.next ≤ b → h.objs.get b = none ∧ ∀ g, φ b g = none
  low : base ≤ w.heap.size
  range : ∀ b g c, φ b g = some c → c.cb < w.heap.size
  inj : ∀ b g c b' g' c', φ b g = some c → φ b' g' = some c' → c.cb = c'.cb → b = b' ∧ c.co = c'.co ∧ c.ao = c'.ao
  los : ∀ b ro gen cs, h.objs.get b = some (.cells ro gen cs) → ∀ i lo v, cs.get i = some (lo, v) → lo ≤ gen
  cells : ∀ b ro gen cs g c, h.objs.get b = some (.cells ro gen cs) → φ b g = some c → g ≤ gen ∧ (ro = false → base ≤ c.cb) ∧
    (∀ i lo v, cs.get i = some (lo, v) → lo ≤ gen) ∧
    ∃ arr t fz, w.heap[c.cb]? = some (.cells arr t fz) ∧ (ro = false → FzOk fz arr.size) ∧
      ∀ i lo v, cs.get i = some (lo, v) → lo ≤ g → c.ao ≤ i → i < c.e → ∃ u, arr[c.co + (i - c.ao)]? = some u ∧ VR φ w v u ∧ oneCell v = true
  other : ∀ b x g c, h.objs.get b = some x → isCells x = false → φ b g = some c → base ≤ c.cb ∧ (c.co = 0 ∧ g = 0) ∧ ∃ o, w.heap[c.cb]? = some o ∧ ObjR φ w x o
/-- may an object be written? -/
def wr : Option AObj → Bool
  | some (.cells true _ _) => false
  | some _ => true
  | none => false
theorem wr_other {x : AObj} (h : isCells x = false) : wr (some x) = true := by cases x <;> first | rfl | cases h
theorem wr_some {x : Option AObj} (e : wr x = true) : x.isSome = true := by
  cases x with
  | none => cases e
  | some x => rfl
/-- what else may have turned in a world: nothing but rows that the memory knows of -/
structure Kept (φ : Emb) (h : Heap) (w w' : World) : Prop where
  os : w'.os = w.os
  tape : w'.tape = w.tape
  output : w'.output = w.output
  size : w.heap.size ≤ w'.heap.size
  block : ∀ cb, cb < w.heap.size → (∀ b g c, φ b g = some c → wr (h.objs.get b) = true → c.cb ≠ cb) → w'.heap[cb]? = w.heap[cb]?
theorem HR.iter {base : Nat} {φ : Emb} {h : Heap} {w : World} (H : HR base φ h w) (b : Nat) (s : List UInt8) (pos g : Nat) (c : CL) (e1 : h.objs.get b = some (.iter s pos)) (e2 : φ b g = some c) :
    base ≤ c.cb ∧ (c.co = 0 ∧ g = 0) ∧ w.heap[c.cb]? = some (.stringIter ⟨⟨s⟩⟩ pos) := by
  obtain ⟨q1, q2, o, q3, q4⟩ := H.other b _ g c e1 rfl e2
  cases q4
  exact ⟨q1, q2, q3⟩
/-! runs that go alike -/
theorem same0_eq {x y : AV} (e : same0 x y = true) : x = y := by
  cases x <;> cases y <;> simp_all [same0]
theorem same0L_eq : ∀ {l m : List AV}, same0L l m = true → l = m
  | [], [], _ => rfl
  | [], _ :: _, e => by simp [same0L] at e
  | _ :: _, [], e => by simp [same0L] at e
  | x :: l, y :: m, e => by
    simp only [same0L, Bool.and_eq_true] at e
    rw [same0_eq e.1, same0L_eq e.2]
theorem same1_eq {x y : AV} (e : same1 x y = true) : x = y := by
  cases x <;> cases y <;> first | (simp only [same1] at e; rw [same0L_eq e]; done) | (simp only [same1] at e; rw [Nat.eq_of_beq_eq_true e]; done) | simp_all [same1]
theorem sameL_eq : ∀ {l m : List AV}, sameL l m = true → l = m
  | [], [], _ => rfl
  | [], _ :: _, e => by simp [sameL] at e
  | _ :: _, [], e => by simp [sameL] at e
  | x :: l, y :: m, e => by
    simp only [sameL, Bool.and_eq_true] at e
    rw [same1_eq e.1, sameL_eq e.2]
theorem sameV_eq {x y : AV} (e : sameV x y = true) : x = y := by
  unfold sameV at e
  split at e
  · split at e
    · rw [sameL_eq e]
    · cases e
  · split at e
    · rw [sameL_eq e]
    · cases e
  · exact same1_eq e
theorem mapO_at {α β : Type} {f : α → Option β} : ∀ {l : List α} {r : List β}, mapO f l = some r → ∀ (i : Nat) (x : α), l[i]? = some x → ∃ y, r[i]? = some y ∧ f x = some y
  | [], r, e, i, x, hx => by simp at hx
  | a :: l, r, e, i, x, hx => by
    simp only [mapO, Option.bind_eq_some_iff, Option.some.injEq] at e
    obtain ⟨y, hy, r', hr, rfl⟩ := e
    cases i with
    | zero => simp at hx; subst hx; exact ⟨y, rfl, hy⟩
    | succ i => simp at hx; obtain ⟨z, h1, h2⟩ := mapO_at hr i x hx; exact ⟨z, by simpa using h1, h2⟩
theorem collapse_ok {φ : Emb} {w : World} {rs : List AV} {v r0 : AV} {u : Value} (e : collapse rs = some v) (h : rs[Lane.l]? = some r0) (k : VR φ w r0 u) : VR φ w v u := by
  cases rs with
  | nil => cases e
  | cons x r =>
    unfold collapse at e
    dsimp only at e
    cases ha : r.all (sameV x) with
    | true =>
      rw [ha, cond_true] at e
      rw [← Option.some.inj e]
      have hx : x = r0 := by
        cases hl : Lane.l with
        | zero => rw [hl] at h; simpa using h
        | succ i => rw [hl] at h; simp at h; exact sameV_eq (List.all_eq_true.1 ha _ (List.mem_of_getElem? h))
      rw [hx]; exact k
    | false =>
      rw [ha, cond_false] at e
      cases hb : (x :: r).all lane1 with
      | false => rw [hb] at e; cases e
      | true =>
        rw [hb, cond_true] at e
        cases e
        exact .vec _ r0 u h (List.all_eq_true.1 hb _ (List.mem_of_getElem? h)) k
theorem lenA_vec {ls : List AV} {n : Nat} (e : lenA (.vec ls) = some n) : ∀ x ∈ ls, ∃ s, x = .str s ∧ s.length = n := by
  unfold lenA at e
  split at e
  case h_4 => cases e
  case h_1 q => cases q
  case h_2 q => cases q
  rename_i l r q
  cases q
  by_cases ha : r.all (strLen l.length) = true
  · rw [if_pos ha] at e
    cases e
    intro x hx
    rcases List.mem_cons.1 hx with rfl | hx
    · exact ⟨l, rfl, rfl⟩
    · have := List.all_eq_true.1 ha x hx
      unfold strLen at this
      split at this
      · exact ⟨_, rfl, Nat.eq_of_beq_eq_true this⟩
      · cases this
  · rw [if_neg ha] at e; cases e
theorem VR.vec_str {φ : Emb} {w : World} {ls : List AV} {n : Nat} {u : Value} (e : lenA (.vec ls) = some n) (k : VR φ w (.vec ls) u) : ∃ s, ls[Lane.l]? = some (.str s) ∧ s.length = n ∧ u = .string ⟨⟨s⟩⟩ := by
  cases k with
  | vec _ x _ hl hs k =>
  obtain ⟨s, rfl, hn⟩ := lenA_vec e x (List.mem_of_getElem? hl)
  cases k
  exact ⟨s, hl, hn, rfl⟩
theorem transB_ok {φ : Emb} {w : World} : ∀ {n : Nat} {ls : List AV} {vs : List AV} {s : List UInt8}, transB n ls = some vs → ls[Lane.l]? = some (.str s) → All2 (VR φ w) vs ((s.take n).map fun b => Value.int .u8 b.toNat)
  | 0, ls, vs, s, e, h => by
    simp only [transB, Option.some.injEq] at e
    subst e
    exact .nil
  | n + 1, ls, vs, s, e, h => by
    simp only [transB, Option.bind_eq_some_iff, Option.map_eq_some_iff] at e
    obtain ⟨cs, hcs, c, hc, r, hr, rfl⟩ := e
    obtain ⟨y, h1, h2⟩ := mapO_at hcs _ _ h
    cases s with
    | nil => cases h2
    | cons b s =>
      cases h2
      have h3 : (ls.map tailS)[Lane.l]? = some (.str s) := by rw [List.getElem?_map, h]; rfl
      exact .cons (collapse_ok hc h1 (.int _ _)) (transB_ok hr h3)
theorem transB_length : ∀ {n : Nat} {ls : List AV} {vs : List AV}, transB n ls = some vs → vs.length = n
  | 0, ls, vs, e => by
    simp only [transB, Option.some.injEq] at e
    subst e; rfl
  | n + 1, ls, vs, e => by
    simp only [transB, Option.bind_eq_some_iff, Option.map_eq_some_iff] at e
    obtain ⟨cs, hcs, c, hc, r, hr, rfl⟩ := e
    simp [transB_length hr]
theorem widthV_ok {pos d : Nat} {ss : List AV} (e : widthV pos ss = some d) : ∀ x ∈ ss, ∃ s, x = .str s ∧ (decodeA s pos).2 = d := by
  unfold widthV at e
  split at e
  case h_2 => cases e
  rename_i l r
  by_cases ha : r.all (widthIs pos (decodeA l pos).2) = true
  · rw [if_pos ha] at e
    cases e
    intro x hx
    rcases List.mem_cons.1 hx with rfl | hx
    · exact ⟨l, rfl, rfl⟩
    · have := List.all_eq_true.1 ha x hx
      unfold widthIs at this
      split at this
      · exact ⟨_, rfl, Nat.eq_of_beq_eq_true this⟩
      · cases this
  · rw [if_neg ha] at e; cases e
theorem VR.lane {φ : Emb} {w : World} {x : AV} {v : Value} (k : VR φ w x v) : VR φ w (atL Lane.l x) v := by
  have k0 := k
  cases k with
  | vec l x _ hl hs k =>
    show VR φ w (l.getD Lane.l .any) v
    rw [List.getD_eq_getElem?_getD, hl]
    exact k
  | _ => exact k0
theorem oneCell_lane {φ : Emb} {w : World} {x : AV} {v : Value} (k : VR φ w x v) (ho : oneCell x = true) : oneCell (atL Lane.l x) = true := by
  cases k with
  | vec l x _ hl hs k =>
    show oneCell (l.getD Lane.l .any) = true
    rw [List.getD_eq_getElem?_getD, hl]
    cases x <;> first | rfl | (simp [lane1] at hs; done)
  | _ => exact ho
theorem All2.lane {φ : Emb} {w : World} {xs : List AV} {vs : List Value} (k : All2 (VR φ w) xs vs) : All2 (VR φ w) (xs.map (atL Lane.l)) vs := by
  induction k with
  | nil => exact .nil
  | cons h _ ih => exact .cons h.lane ih
theorem VR.laneV {φ : Emb} {w : World} {x : AV} {v : Value} (k : VR φ w x v) : VR φ w (atV Lane.l x) v := by
  have k0 := k.lane
  cases k with
  | agg cs vs hcs => exact .agg _ _ hcs.lane
  | tup cs vs hcs => exact .tup _ _ hcs.lane
  | func f cs vs hcs => exact .func _ _ _ hcs.lane
  | _ => exact k0
theorem All2.laneV {φ : Emb} {w : World} {xs : List AV} {vs : List Value} (k : All2 (VR φ w) xs vs) : All2 (VR φ w) (xs.map (atV Lane.l)) vs := by
  induction k with
  | nil => exact .nil
  | cons h _ ih => exact .cons h.laneV ih
theorem range_at {n i : Nat} (h : i < n) : (List.range n)[i]? = some i := by simp [h]
theorem allSame_at {l : List Bool} {b c : Bool} {i : Nat} (e : allSame l = some b) (h : l[i]? = some c) : c = b := by
  cases l with
  | nil => cases e
  | cons x r =>
    unfold allSame at e
    cases ha : r.all (· == x) with
    | false => simp only [ha] at e; cases e
    | true =>
      simp only [ha, cond_true, Option.some.injEq] at e
      subst e
      cases i with
      | zero => simpa using h.symm
      | succ i =>
        simp at h
        simpa using List.all_eq_true.1 ha _ (List.mem_of_getElem? h)
end Go.Vai
