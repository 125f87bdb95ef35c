/- An abstract machine over the model's own code: one order, no tape, memory that tells when a value hangs on what Go leaves open. Definitions alone. -/
import GoSem.Claim
import GoSem.Core.Utf8
import Derived.Calls
import Derived.Orders
import Derived.Laws.Sem
import Derived.Below
import Derived.Laws.Entries
import Derived.Lib.Strings
import Derived.Laws.RangeAny
namespace Go.Vai
set_option linter.unusedVariables false

/-- a term that is kept under a lid: it is turned into a function once -/
structure Box (β : Type) where
  f : β
structure N16 (β : Type) where
  c0 : β
  c1 : β
  c2 : β
  c3 : β
  c4 : β
  c5 : β
  c6 : β
  c7 : β
  c8 : β
  c9 : β
  c10 : β
  c11 : β
  c12 : β
  c13 : β
  c14 : β
  c15 : β
/-- a finite map from numbers: sixteen ways at each place -/
inductive Tr (α : Type) where
  | nil
  | node (v : Option α) (c : N16 (Tr α))
namespace Tr
variable {α : Type}
def rootB : Box (Tr α → Option α) := ⟨fun t => Tr.casesOn (motive_1 := fun _ => Option α) t none fun v _ => v⟩
def chB (d : Nat) : Box (Tr α → Tr α) :=
  match d with
  | 0 => ⟨fun t => Tr.casesOn (motive_1 := fun _ => Tr α) t .nil fun _ c => c.c0⟩
  | 1 => ⟨fun t => Tr.casesOn (motive_1 := fun _ => Tr α) t .nil fun _ c => c.c1⟩
  | 2 => ⟨fun t => Tr.casesOn (motive_1 := fun _ => Tr α) t .nil fun _ c => c.c2⟩
  | 3 => ⟨fun t => Tr.casesOn (motive_1 := fun _ => Tr α) t .nil fun _ c => c.c3⟩
  | 4 => ⟨fun t => Tr.casesOn (motive_1 := fun _ => Tr α) t .nil fun _ c => c.c4⟩
  | 5 => ⟨fun t => Tr.casesOn (motive_1 := fun _ => Tr α) t .nil fun _ c => c.c5⟩
  | 6 => ⟨fun t => Tr.casesOn (motive_1 := fun _ => Tr α) t .nil fun _ c => c.c6⟩
  | 7 => ⟨fun t => Tr.casesOn (motive_1 := fun _ => Tr α) t .nil fun _ c => c.c7⟩
  | 8 => ⟨fun t => Tr.casesOn (motive_1 := fun _ => Tr α) t .nil fun _ c => c.c8⟩
  | 9 => ⟨fun t => Tr.casesOn (motive_1 := fun _ => Tr α) t .nil fun _ c => c.c9⟩
  | 10 => ⟨fun t => Tr.casesOn (motive_1 := fun _ => Tr α) t .nil fun _ c => c.c10⟩
  | 11 => ⟨fun t => Tr.casesOn (motive_1 := fun _ => Tr α) t .nil fun _ c => c.c11⟩
  | 12 => ⟨fun t => Tr.casesOn (motive_1 := fun _ => Tr α) t .nil fun _ c => c.c12⟩
  | 13 => ⟨fun t => Tr.casesOn (motive_1 := fun _ => Tr α) t .nil fun _ c => c.c13⟩
  | 14 => ⟨fun t => Tr.casesOn (motive_1 := fun _ => Tr α) t .nil fun _ c => c.c14⟩
  | _ => ⟨fun t => Tr.casesOn (motive_1 := fun _ => Tr α) t .nil fun _ c => c.c15⟩
def setB (d : Nat) : Box (Tr α → (Tr α → Tr α) → Tr α) :=
  match d with
  | 0 => ⟨fun t g => Tr.casesOn (motive_1 := fun _ => Tr α) t (.node none (.mk (g .nil) .nil .nil .nil .nil .nil .nil .nil .nil .nil .nil .nil .nil .nil .nil .nil)) fun v c => N16.casesOn (motive := fun _ => Tr α) c fun c0 c1 c2 c3 c4 c5 c6 c7 c8 c9 c10 c11 c12 c13 c14 c15 => .node v (.mk (g c0) c1 c2 c3 c4 c5 c6 c7 c8 c9 c10 c11 c12 c13 c14 c15)⟩
  | 1 => ⟨fun t g => Tr.casesOn (motive_1 := fun _ => Tr α) t (.node none (.mk .nil (g .nil) .nil .nil .nil .nil .nil .nil .nil .nil .nil .nil .nil .nil .nil .nil)) fun v c => N16.casesOn (motive := fun _ => Tr α) c fun c0 c1 c2 c3 c4 c5 c6 c7 c8 c9 c10 c11 c12 c13 c14 c15 => .node v (.mk c0 (g c1) c2 c3 c4 c5 c6 c7 c8 c9 c10 c11 c12 c13 c14 c15)⟩
  | 2 => ⟨fun t g => Tr.casesOn (motive_1 := fun _ => Tr α) t (.node none (.mk .nil .nil (g .nil) .nil .nil .nil .nil .nil .nil .nil .nil .nil .nil .nil .nil .nil)) fun v c => N16.casesOn (motive := fun _ => Tr α) c fun c0 c1 c2 c3 c4 c5 c6 c7 c8 c9 c10 c11 c12 c13 c14 c15 => .node v (.mk c0 c1 (g c2) c3 c4 c5 c6 c7 c8 c9 c10 c11 c12 c13 c14 c15)⟩
  | 3 => ⟨fun t g => Tr.casesOn (motive_1 := fun _ => Tr α) t (.node none (.mk .nil .nil .nil (g .nil) .nil .nil .nil .nil .nil .nil .nil .nil .nil .nil .nil .nil)) fun v c => N16.casesOn (motive := fun _ => Tr α) c fun c0 c1 c2 c3 c4 c5 c6 c7 c8 c9 c10 c11 c12 c13 c14 c15 => .node v (.mk c0 c1 c2 (g c3) c4 c5 c6 c7 c8 c9 c10 c11 c12 c13 c14 c15)⟩
  | 4 => ⟨fun t g => Tr.casesOn (motive_1 := fun _ => Tr α) t (.node none (.mk .nil .nil .nil .nil (g .nil) .nil .nil .nil .nil .nil .nil .nil .nil .nil .nil .nil)) fun v c => N16.casesOn (motive := fun _ => Tr α) c fun c0 c1 c2 c3 c4 c5 c6 c7 c8 c9 c10 c11 c12 c13 c14 c15 => .node v (.mk c0 c1 c2 c3 (g c4) c5 c6 c7 c8 c9 c10 c11 c12 c13 c14 c15)⟩
  | 5 => ⟨fun t g => Tr.casesOn (motive_1 := fun _ => Tr α) t (.node none (.mk .nil .nil .nil .nil .nil (g .nil) .nil .nil .nil .nil .nil .nil .nil .nil .nil .nil)) fun v c => N16.casesOn (motive := fun _ => Tr α) c fun c0 c1 c2 c3 c4 c5 c6 c7 c8 c9 c10 c11 c12 c13 c14 c15 => .node v (.mk c0 c1 c2 c3 c4 (g c5) c6 c7 c8 c9 c10 c11 c12 c13 c14 c15)⟩
  | 6 => ⟨fun t g => Tr.casesOn (motive_1 := fun _ => Tr α) t (.node none (.mk .nil .nil .nil .nil .nil .nil (g .nil) .nil .nil .nil .nil .nil .nil .nil .nil .nil)) fun v c => N16.casesOn (motive := fun _ => Tr α) c fun c0 c1 c2 c3 c4 c5 c6 c7 c8 c9 c10 c11 c12 c13 c14 c15 => .node v (.mk c0 c1 c2 c3 c4 c5 (g c6) c7 c8 c9 c10 c11 c12 c13 c14 c15)⟩
  | 7 => ⟨fun t g => Tr.casesOn (motive_1 := fun _ => Tr α) t (.node none (.mk .nil .nil .nil .nil .nil .nil .nil (g .nil) .nil .nil .nil .nil .nil .nil .nil .nil)) fun v c => N16.casesOn (motive := fun _ => Tr α) c fun c0 c1 c2 c3 c4 c5 c6 c7 c8 c9 c10 c11 c12 c13 c14 c15 => .node v (.mk c0 c1 c2 c3 c4 c5 c6 (g c7) c8 c9 c10 c11 c12 c13 c14 c15)⟩
  | 8 => ⟨fun t g => Tr.casesOn (motive_1 := fun _ => Tr α) t (.node none (.mk .nil .nil .nil .nil .nil .nil .nil .nil (g .nil) .nil .nil .nil .nil .nil .nil .nil)) fun v c => N16.casesOn (motive := fun _ => Tr α) c fun c0 c1 c2 c3 c4 c5 c6 c7 c8 c9 c10 c11 c12 c13 c14 c15 => .node v (.mk c0 c1 c2 c3 c4 c5 c6 c7 (g c8) c9 c10 c11 c12 c13 c14 c15)⟩
  | 9 => ⟨fun t g => Tr.casesOn (motive_1 := fun _ => Tr α) t (.node none (.mk .nil .nil .nil .nil .nil .nil .nil .nil .nil (g .nil) .nil .nil .nil .nil .nil .nil)) fun v c => N16.casesOn (motive := fun _ => Tr α) c fun c0 c1 c2 c3 c4 c5 c6 c7 c8 c9 c10 c11 c12 c13 c14 c15 => .node v (.mk c0 c1 c2 c3 c4 c5 c6 c7 c8 (g c9) c10 c11 c12 c13 c14 c15)⟩
  | 10 => ⟨fun t g => Tr.casesOn (motive_1 := fun _ => Tr α) t (.node none (.mk .nil .nil .nil .nil .nil .nil .nil .nil .nil .nil (g .nil) .nil .nil .nil .nil .nil)) fun v c => N16.casesOn (motive := fun _ => Tr α) c fun c0 c1 c2 c3 c4 c5 c6 c7 c8 c9 c10 c11 c12 c13 c14 c15 => .node v (.mk c0 c1 c2 c3 c4 c5 c6 c7 c8 c9 (g c10) c11 c12 c13 c14 c15)⟩
  | 11 => ⟨fun t g => Tr.casesOn (motive_1 := fun _ => Tr α) t (.node none (.mk .nil .nil .nil .nil .nil .nil .nil .nil .nil .nil .nil (g .nil) .nil .nil .nil .nil)) fun v c => N16.casesOn (motive := fun _ => Tr α) c fun c0 c1 c2 c3 c4 c5 c6 c7 c8 c9 c10 c11 c12 c13 c14 c15 => .node v (.mk c0 c1 c2 c3 c4 c5 c6 c7 c8 c9 c10 (g c11) c12 c13 c14 c15)⟩
  | 12 => ⟨fun t g => Tr.casesOn (motive_1 := fun _ => Tr α) t (.node none (.mk .nil .nil .nil .nil .nil .nil .nil .nil .nil .nil .nil .nil (g .nil) .nil .nil .nil)) fun v c => N16.casesOn (motive := fun _ => Tr α) c fun c0 c1 c2 c3 c4 c5 c6 c7 c8 c9 c10 c11 c12 c13 c14 c15 => .node v (.mk c0 c1 c2 c3 c4 c5 c6 c7 c8 c9 c10 c11 (g c12) c13 c14 c15)⟩
  | 13 => ⟨fun t g => Tr.casesOn (motive_1 := fun _ => Tr α) t (.node none (.mk .nil .nil .nil .nil .nil .nil .nil .nil .nil .nil .nil .nil .nil (g .nil) .nil .nil)) fun v c => N16.casesOn (motive := fun _ => Tr α) c fun c0 c1 c2 c3 c4 c5 c6 c7 c8 c9 c10 c11 c12 c13 c14 c15 => .node v (.mk c0 c1 c2 c3 c4 c5 c6 c7 c8 c9 c10 c11 c12 (g c13) c14 c15)⟩
  | 14 => ⟨fun t g => Tr.casesOn (motive_1 := fun _ => Tr α) t (.node none (.mk .nil .nil .nil .nil .nil .nil .nil .nil .nil .nil .nil .nil .nil .nil (g .nil) .nil)) fun v c => N16.casesOn (motive := fun _ => Tr α) c fun c0 c1 c2 c3 c4 c5 c6 c7 c8 c9 c10 c11 c12 c13 c14 c15 => .node v (.mk c0 c1 c2 c3 c4 c5 c6 c7 c8 c9 c10 c11 c12 c13 (g c14) c15)⟩
  | _ => ⟨fun t g => Tr.casesOn (motive_1 := fun _ => Tr α) t (.node none (.mk .nil .nil .nil .nil .nil .nil .nil .nil .nil .nil .nil .nil .nil .nil .nil (g .nil))) fun v c => N16.casesOn (motive := fun _ => Tr α) c fun c0 c1 c2 c3 c4 c5 c6 c7 c8 c9 c10 c11 c12 c13 c14 c15 => .node v (.mk c0 c1 c2 c3 c4 c5 c6 c7 c8 c9 c10 c11 c12 c13 c14 (g c15))⟩
def getB : Nat → Nat → Box (Tr α → Option α)
  | 0, _ => ⟨fun _ => none⟩
  | n + 1, k => cond (Nat.beq k 0) rootB ⟨fun t => (getB n ((k - 1) / 16)).f ((chB ((k - 1) % 16)).f t)⟩
def topB : Box (α → Tr α → Tr α) := ⟨fun x t => Tr.casesOn (motive_1 := fun _ => Tr α) t (.node (some x) (.mk .nil .nil .nil .nil .nil .nil .nil .nil .nil .nil .nil .nil .nil .nil .nil .nil)) fun _ c => .node (some x) c⟩
def putB : Nat → Nat → Box (α → Tr α → Tr α)
  | 0, _ => ⟨fun _ t => t⟩
  | n + 1, k => cond (Nat.beq k 0) topB ⟨fun x t => (setB ((k - 1) % 16)).f t ((putB n ((k - 1) / 16)).f x)⟩
def get (t : Tr α) (k : Nat) : Option α := (getB 44 k).f t
def put (t : Tr α) (k : Nat) (x : α) : Tr α := (putB 44 k).f x t
def set (t : Tr α) (k : Nat) (x : α) : Option (Tr α) := cond (Nat.blt k 1099511627776) (some ((putB 44 k).f x t)) none
def map {β : Type} (f : α → β) : Tr α → Tr β
  | .nil => .nil
  | .node v ⟨c0, c1, c2, c3, c4, c5, c6, c7, c8, c9, c10, c11, c12, c13, c14, c15⟩ => .node (v.map f) ⟨map f c0, map f c1, map f c2, map f c3, map f c4, map f c5, map f c6, map f c7, map f c8, map f c9, map f c10, map f c11, map f c12, map f c13, map f c14, map f c15⟩
end Tr

/-- a place in memory: block, generation, index, end of the generation's row -/
structure Loc where
  b : Nat
  g : Nat
  i : Nat
  e : Nat
  deriving DecidableEq
inductive AV where
  | u
  | bool (x : Bool)
  | int (k : IntKind) (x : Int)
  | str (l : List UInt8)
  | ptr (a : Option Loc)
  | slice (a : Option Loc) (len room sz : Nat)
  | map (r : Option Nat)
  | func (f : Nat) (caps : List AV)
  | nilf
  | nilI
  | any
  | agg (cs : List AV)
  | tup (vs : List AV)
  | vec (l : List AV)
  | arg (i : Nat)
  | yld (b : Nat)
  | big (i lo : Nat)
  | lslice (a : Loc) (n i : Nat) (ex : Bool)
  deriving Inhabited
/-- a value may be told for a few runs that go alike: how many runs, for each thing that may differ (each has its own number) -/
def DIMS : List Nat := [10, 11, 12, 13, 14]
/-- no run has a greater number; of which things the runs differ -/
def CAP : Nat := 10
def DIFF : List (Nat × Nat) := []
/-- which of these runs is meant -/
class Lane where
  l : Nat → Nat
  arg : Nat → Int
  lt : ∀ n, n ∈ DIMS → l n < n
  cap : ∀ n, l n < CAP
  diff : ∀ p, p ∈ DIFF → l p.1 ≠ l p.2
  stat : List (Nat × Obj) := []
  sl : Value := .nilFunc
abbrev Lane.some : Lane := ⟨fun n => n % 2, fun _ => 0, by decide, fun n => Nat.lt_of_lt_of_le (Nat.mod_lt n (by decide)) (by decide), by decide, [], .nilFunc⟩
inductive AObj where
  | cells (ro : Bool) (gen : Nat) (cs : Tr (Nat × AV))
  | iter (s : List UInt8) (pos : Nat)
  | viter (ss : List AV) (pos : Nat)
  | map (es : List (AV × AV))
  | mapit (m n : Nat) (cur : Option Nat)
  | miter (m n : Nat) (seen : Bool)
structure Heap where
  next : Nat
  objs : Tr AObj
abbrev Fr := Tr AV
structure St where
  fr : Fr
  h : Heap

def oneCell : AV → Bool
  | .agg _ | .tup _ | .u | .yld _ => false
  | _ => true
/-- what may stand in a lane -/
def lane1 : AV → Bool
  | .bool _ | .int _ _ | .str _ | .ptr (some _) => true
  | _ => false
def same0 (x y : AV) : Bool :=
  match x with
  | .bool a => (match y with | .bool b => a == b | _ => false)
  | .int k a => (match y with | .int k' b => decide (k = k') && a == b | _ => false)
  | .str a => (match y with | .str b => a == b | _ => false)
  | .ptr a => (match y with | .ptr b => decide (a = b) | _ => false)
  | _ => false
def same0L : List AV → List AV → Bool
  | [], [] => true
  | x :: l, y :: m => same0 x y && same0L l m
  | _, _ => false
def same1 (x y : AV) : Bool :=
  match x with
  | .vec l => (match y with | .vec m => same0L l m | _ => false)
  | .u => (match y with | .u => true | _ => false)
  | .bool a => (match y with | .bool b => a == b | _ => false)
  | .int k a => (match y with | .int k' b => decide (k = k') && a == b | _ => false)
  | .str a => (match y with | .str b => a == b | _ => false)
  | .ptr a => (match y with | .ptr b => decide (a = b) | _ => false)
  | .slice a n r s => (match y with | .slice b n' r' s' => decide (a = b) && n == n' && r == r' && s == s' | _ => false)
  | .map a => (match y with | .map b => a == b | _ => false)
  | .nilf => (match y with | .nilf => true | _ => false)
  | .nilI => (match y with | .nilI => true | _ => false)
  | .arg i => (match y with | .arg j => Nat.beq i j | _ => false)
  | _ => false
def sameL : List AV → List AV → Bool
  | [], [] => true
  | x :: l, y :: m => same1 x y && sameL l m
  | _, _ => false
def sameV (x y : AV) : Bool :=
  match x with
  | .agg l => (match y with | .agg m => sameL l m | _ => false)
  | .tup l => (match y with | .tup m => sameL l m | _ => false)
  | x => same1 x y
/-- what runs that go alike came to -/
def collapse : List AV → Option AV
  | [] => none
  | x :: r => bif r.all (sameV x) then some x else (bif (x :: r).all lane1 then some (.vec (x :: r)) else none)
/-- a value in one lane -/
def atL (n j : Nat) : AV → AV
  | .vec l => bif Nat.beq l.length n then l.getD j .any else .vec l
  | x => x
def atV (n j : Nat) : AV → AV
  | .agg cs => .agg (cs.map (atL n j))
  | .tup cs => .tup (cs.map (atL n j))
  | .func f cs => .func f (cs.map (atL n j))
  | x => atL n j x
def atC (n j : Nat) (c : Nat × AV) : Nat × AV := (c.1, atL n j c.2)
def projO (n j : Nat) : AObj → AObj
  | .cells ro gen cs => .cells ro gen (cs.map (atC n j))
  | x => x
def projH (n j : Nat) (h : Heap) : Heap := ⟨h.next, h.objs.map (projO n j)⟩
/-- the first that answers -/
def firstD {β : Type} (f : Nat → Option β) : List Nat → Option β
  | [] => none
  | n :: r => match f n with | some x => some x | none => firstD f r
def ofV1 : Value → Option AV
  | .bool b => some (.bool b)
  | .int k n => some (.int k n)
  | .string s => some (.str s.data.toList)
  | .pointer none => some (.ptr none)
  | .slice none 0 0 => some (.slice none 0 0 0)
  | .map none => some (.map none)
  | .nilFunc => some .nilf
  | .nilIface => some .nilI
  | _ => none
def mapO {α β : Type} (f : α → Option β) : List α → Option (List β)
  | [] => some []
  | x :: l => (f x).bind fun y => (mapO f l).bind fun r => some (y :: r)
def ofV : Value → Option AV
  | .agg cs => (mapO ofV1 cs.toList).map .agg
  | v => ofV1 v
/-- 'any' stands in a frame alone, for what is not known: it is never read -/
def liveV (v : AV) : Option AV :=
  match v with
  | .any => none
  | v => some v
def tmpV (fr : Fr) (t : Nat) : Option AV :=
  match fr.get t with
  | none => some .u
  | some v => liveV v
def evalO (glob : Nat → Option AV) (fr : Fr) : Operand → Option AV
  | .tmp t => tmpV fr t
  | .const v => ofV v
  | .global g => glob g
  | .func f => some (.func f [])
def cellsA : AV → List AV
  | .agg cs => cs
  | v => [v]

/-! memory -/
def loadC (h : Heap) (a : Loc) (j : Nat) : Option AV :=
  match h.objs.get a.b with
  | some (.cells _ _ cs) =>
    if a.i + j < a.e then
      match cs.get (a.i + j) with
      | some (lo, v) => if lo ≤ a.g then some v else none
      | none => none
    else none
  | _ => none
def loadN (h : Heap) (a : Loc) : (j n : Nat) → Option (List AV)
  | _, 0 => some []
  | j, n + 1 => (loadC h a j).bind fun v => (loadN h a (j + 1) n).bind fun r => some (v :: r)
def storeC (h : Heap) (a : Loc) (j : Nat) (v : AV) : Option Heap :=
  match h.objs.get a.b with
  | some (.cells false gen cs) =>
    if a.g = gen ∧ a.i + j < a.e ∧ oneCell v = true then
      match cs.get (a.i + j) with
      | some _ => (cs.set (a.i + j) (gen, v)).bind fun cs' => (h.objs.set a.b (.cells false gen cs')).bind fun o => some { h with objs := o }
      | none => none
    else none
  | _ => none
def storeN (h : Heap) (a : Loc) : (j : Nat) → List AV → Option Heap
  | _, [] => some h
  | j, v :: r => (storeC h a j v).bind fun h' => storeN h' a (j + 1) r
def fillTr (lo : Nat) : (cs : Tr (Nat × AV)) → (i : Nat) → List AV → Option (Tr (Nat × AV))
  | cs, _, [] => some cs
  | cs, i, v :: r => if oneCell v then (cs.set i (lo, v)).bind fun cs' => fillTr lo cs' (i + 1) r else none
/-- a new row: its block's number, the memory -/
def newRow (h : Heap) (vs : List AV) : Option (Nat × Heap) :=
  (fillTr 0 .nil 0 vs).bind fun cs => (h.objs.set h.next (.cells false 0 cs)).bind fun o => some (h.next, { next := h.next + 1, objs := o })
/-- .. one that may be marked as a string's bytes: its generations are odd -/
def newRow1 (h : Heap) (vs : List AV) : Option (Nat × Heap) :=
  (fillTr 1 .nil 0 vs).bind fun cs => (h.objs.set h.next (.cells false 1 cs)).bind fun o => some (h.next, { next := h.next + 1, objs := o })
def newObj (h : Heap) (x : AObj) : Option (Nat × Heap) := (h.objs.set h.next x).bind fun o => some (h.next, { next := h.next + 1, objs := o })

section ops
variable (P : Program)
def isAggT (t : TypeId) : Option Bool :=
  match P.underlying t with
  | some (.struct _) | some (.array _ _) => some true
  | some _ => some false
  | none => none
def sizeT (t : TypeId) : Option Nat := (P.info? t).map (·.size)
def zeroT (t : TypeId) : Option AV := (P.info? t).bind fun i => i.zero.bind ofV
def loadV (h : Heap) (t : TypeId) : AV → Option AV
  | .ptr (some a) => (isAggT P t).bind fun g => if g then (sizeT P t).bind fun n => (loadN h a 0 n).map .agg else loadC h a 0
  | _ => none
def storeV (h : Heap) (t : TypeId) (p v : AV) : Option Heap :=
  match p with
  | .ptr (some a) => (sizeT P t).bind fun n => if (cellsA v).length = n then storeN h a 0 (cellsA v) else none
  | _ => none
def spread (cs : List AV) (off : Nat) (vs : List AV) : List AV := cs.take off ++ vs ++ cs.drop (off + vs.length)
def fillA (place : Nat → Option (Nat × Nat)) : List AV → List (Nat × AV) → Option (List AV)
  | cs, [] => some cs
  | cs, (i, v) :: rest => (place i).bind fun (off, size) => if (cellsA v).length = size ∧ off + size ≤ cs.length then fillA place (spread cs off (cellsA v)) rest else none
def placesT (t : TypeId) : Option (Nat → Option (Nat × Nat)) :=
  match P.underlying t with
  | some (.struct fs) => (mapO (fun (f : Field) => (sizeT P f.type).map fun n => (f.offset, n)) fs.toList).map fun l => fun i => l[i]?
  | some (.array _ e) => (sizeT P e).map fun n => fun i => some (i * n, n)
  | _ => none
def reps (zero : List AV) : Nat → List AV
  | 0 => []
  | n + 1 => zero ++ reps zero n
def knownInt : AV → Option (IntKind × Int)
  | .int k n => some (k, n)
  | _ => none
def int2 (f : IntKind → Int → Int → Option AV) (x y : AV) : Option AV :=
  match x with
  | .int k a => (match y with | .int k' b => if k = k' then f k a b else none | _ => none)
  | _ => none
def addI (k : IntKind) (a b : Int) : Option AV := some (.int k (k.wrap (a + b)))
def subI (k : IntKind) (a b : Int) : Option AV := some (.int k (k.wrap (a - b)))
def mulI (k : IntKind) (a b : Int) : Option AV := some (.int k (k.wrap (a * b)))
def quoI (k : IntKind) (a b : Int) : Option AV := if b ≠ 0 then some (.int k (k.wrap (a.tdiv b))) else none
def remI (k : IntKind) (a b : Int) : Option AV := if b ≠ 0 then some (.int k (a.tmod b)) else none
def eqlI (_ : IntKind) (a b : Int) : Option AV := some (.bool (a == b))
def neqI (_ : IntKind) (a b : Int) : Option AV := some (.bool (a != b))
def lssI (_ : IntKind) (a b : Int) : Option AV := some (.bool (decide (a < b)))
def leqI (_ : IntKind) (a b : Int) : Option AV := some (.bool (decide (a ≤ b)))
def gtrI (_ : IntKind) (a b : Int) : Option AV := some (.bool (decide (a > b)))
def geqI (_ : IntKind) (a b : Int) : Option AV := some (.bool (decide (a ≥ b)))
def addA (x y : AV) : Option AV :=
  match x with
  | .str a => (match y with | .str b => if a.length + b.length ≤ 1099511627776 then some (.str (a ++ b)) else none | _ => none)
  | _ => int2 addI x y
def partA (t : TypeId) (cs : List AV) (off : Nat) : Option AV :=
  (isAggT P t).bind fun g => if g then (sizeT P t).map fun n => .agg ((cs.drop off).take n) else cs[off]?
/-- comparisons that want the type, within structs -/
def eqFs (eq : TypeId → AV → AV → Option Bool) (xs ys : List AV) : List Field → Option Bool
  | [] => some true
  | f :: fs => if f.name = "_" then eqFs eq xs ys fs else (partA P f.type xs f.offset).bind fun a => (partA P f.type ys f.offset).bind fun b => (eq f.type a b).bind fun c => if c then eqFs eq xs ys fs else some false
def eqIn : Nat → TypeId → AV → AV → Option Bool
  | 0, _, _, _ => none
  | d + 1, t, x, y =>
    match P.underlying t with
    | some .bool => (match x with | .bool a => (match y with | .bool b => some (a == b) | _ => none) | _ => none)
    | some (.int _) => (match x with | .int k a => (match y with | .int k' b => if k = k' then some (a == b) else none | _ => none) | _ => none)
    | some .string => (match x with | .str a => (match y with | .str b => some (a == b) | _ => none) | _ => none)
    | some (.struct fs) => (match x with
      | .agg xs => (match y with
        | .agg ys => if P.stoodInHeld t then none else eqFs P (eqIn d) xs ys fs.toList
        | _ => none)
      | _ => none)
    | _ => none
/-- comparisons that want the type -/
def eqA (t : TypeId) (x y : AV) : Option Bool :=
  match P.underlying t, x, y with
  | some .bool, .bool a, .bool b => some (a == b)
  | some (.slice _), .slice a _ _ _, .slice none _ _ _ => some a.isNone
  | some (.slice _), .slice none _ _ _, .slice b _ _ _ => some b.isNone
  | some (.pointer _), .ptr none, .ptr b => some b.isNone
  | some (.pointer _), .ptr a, .ptr none => some a.isNone
  | some (.interface _), .nilI, .nilI => some true
  | _, _, _ => none
def eqlA (t : TypeId) (x y : AV) : Option AV :=
  match x with
  | .int _ _ => int2 eqlI x y
  | .str a => (match y with | .str b => some (.bool (a == b)) | _ => none)
  | _ => (eqA P t x y).map .bool
def neqA (t : TypeId) (x y : AV) : Option AV :=
  match x with
  | .int _ _ => int2 neqI x y
  | .str a => (match y with | .str b => some (.bool (!(a == b))) | _ => none)
  | _ => (eqA P t x y).map fun b => .bool (!b)
def noneB (_ : TypeId) (_ _ : AV) : Option AV := none
def binT (op : BinOp) (t : TypeId) (x y : AV) : Option AV :=
  match op with
  | .add => addA x y | .sub => int2 subI x y | .mul => int2 mulI x y | .quo => int2 quoI x y | .rem => int2 remI x y
  | .eql => eqlA P t x y | .neq => neqA P t x y | .lss => int2 lssI x y | .leq => int2 leqI x y | .gtr => int2 gtrI x y | .geq => int2 geqI x y
  | _ => none
def unA (op : UnOp) : AV → Option AV
  | .bool b => match op with | .not => some (.bool (!b)) | _ => none
  | .int k n => match op with | .neg => some (.int k (k.wrap (0 - n))) | _ => none
  | _ => none
def boundA (y : Nat) : AV → Option Nat
  | .int _ i => if 0 ≤ i ∧ i ≤ (y : Int) then some i.toNat else none
  | _ => none
def hiA (top dflt : Nat) : Option AV → Option Nat
  | some v => boundA top v
  | none => some dflt
/-- a slice expression with three numbers -/
def slice3A (t : TypeId) (x : AV) (lo : Option AV) (hi mx : AV) : Option AV :=
  match P.underlying t with
  | some (.slice e) =>
    (match x with
    | .slice (some a) len room sz => (sizeT P e).bind fun n =>
      if n = sz then (boundA room mx).bind fun m => (boundA m hi).bind fun h => (hiA h 0 lo).bind fun k => some (.slice (some { a with i := a.i + k * sz }) (h - k) (m - k) sz) else none
    | _ => none)
  | _ => none
def sliceA (t : TypeId) (x : AV) (lo hi : Option AV) : Option AV :=
  match P.underlying t with
  | some .string =>
    (match x with
    | .str l => (hiA l.length l.length hi).bind fun h => (hiA h 0 lo).bind fun k => some (.str ((l.drop k).take (h - k)))
    | _ => none)
  | some (.slice e) =>
    (match x with
    | .slice none _ _ _ => (hiA 0 0 hi).bind fun h => (hiA h 0 lo).bind fun _ => (sizeT P e).bind fun _ => some (.slice none 0 0 0)
    | .slice (some a) len room sz => (sizeT P e).bind fun n =>
      if n = sz then (hiA room len hi).bind fun h => (hiA h 0 lo).bind fun k => some (.slice (some { a with i := a.i + k * sz }) (h - k) (room - k) sz) else none
    | _ => none)
  | _ => none
def atA (a : Loc) (len n : Nat) (i : Int) : Option AV := if 0 ≤ i ∧ i < (len : Int) then some (.ptr (some { a with i := a.i + i.toNat * n })) else none
def indexAddrA (t : TypeId) (x ix : AV) : Option AV :=
  match ix with
  | .int _ i =>
    (match P.underlying t with
    | some (.slice e) => (match x with
      | .slice (some a) len _ sz => (sizeT P e).bind fun n => if n = sz then atA a len n i else none
      | _ => none)
    | some (.array len e) => (match x with
      | .ptr (some a) => (sizeT P e).bind fun n => atA a len n i
      | _ => none)
    | _ => none)
  | _ => none
def indexA (t : TypeId) (x ix : AV) : Option AV :=
  match P.underlying t, x, ix with
  | some .string, .str l, .int _ i => if 0 ≤ i then (l[i.toNat]?).map fun c => .int .u8 c.toNat else none
  | _, _, _ => none
def fieldAddrA (t : TypeId) (x : AV) (f : Nat) : Option AV :=
  match P.underlying t, x with
  | some (.struct fs), .ptr (some a) => (fs[f]?).bind fun f => (sizeT P f.type).bind fun n => if n ≠ 0 then some (.ptr (some { a with i := a.i + f.offset })) else none
  | _, _ => none
def fieldA (t : TypeId) (x : AV) (f : Nat) : Option AV :=
  match P.underlying t, x with
  | some (.struct fs), .agg cs => (fs[f]?).bind fun f => (isAggT P f.type).bind fun g => if g then (sizeT P f.type).map fun n => .agg ((cs.drop f.offset).take n) else cs[f.offset]?
  | _, _ => none
def strLen (n : Nat) : AV → Bool
  | .str l => Nat.beq l.length n
  | _ => false
def lenA : AV → Option Nat
  | .str l => some l.length
  | .slice _ n _ _ => some n
  | .vec (.str l :: r) => if r.all (strLen l.length) then some l.length else none
  | _ => none
def bytesA (l : List UInt8) : List AV := l.map fun c => .int .u8 c.toNat
/-- the bytes of texts that go side by side -/
def headS : AV → Option AV
  | .str (c :: _) => some (.int .u8 c.toNat)
  | _ => none
def tailS : AV → AV
  | .str (_ :: l) => .str l
  | x => x
def transB : Nat → List AV → Option (List AV)
  | 0, _ => some []
  | n + 1, ls => (mapO headS ls).bind fun cs => (collapse cs).bind fun c => (transB n (ls.map tailS)).map fun r => c :: r
/-- the first so many elements' cells of what an append or a copy brings -/
def srcCells (h : Heap) (size n : Nat) : AV → Option (List AV)
  | .str l => if size = 1 then some (bytesA (l.take n)) else none
  | .slice none _ _ _ => some []
  | .slice (some a) _ _ sz => if sz = size then loadN h a 0 (n * size) else none
  | .vec ls => if size = 1 then (lenA (.vec ls)).bind fun _ => transB n ls else none
  | _ => none
def growA (h : Heap) (a : Loc) (len n sz : Nat) (vs : List AV) : Option (AV × Heap) :=
  match h.objs.get a.b with
  | some (.cells false gen cs) =>
    if a.g = gen then
      (fillTr (gen + 2) cs (a.i + len * sz) vs).bind fun cs' => (h.objs.set a.b (.cells false (gen + 2) cs')).bind fun o =>
        some (.slice (some ⟨a.b, gen + 2, a.i, a.i + (len + n) * sz⟩) (len + n) (len + n) sz, { h with objs := o })
    else none
  | _ => none
def appendA (h : Heap) (t : TypeId) (s x : AV) : Option (AV × Heap) :=
  match P.underlying t with
  | some (.slice e) =>
    (match s with
    | .slice a len room sz =>
      (sizeT P e).bind fun size => (lenA x).bind fun n =>
        if n = 0 then some (.slice a len room sz, h)
        else if len + n ≤ 16777216 ∧ 0 < size ∧ ((P.info? e).all fun i => decide (i.bytes ≤ 65536)) = true ∧ ((zeroT P e).any fun z => decide ((cellsA z).length = size)) = true then
          (srcCells h size n x).bind fun vs =>
          match a with
          | none => (newRow h vs).bind fun r => some (.slice (some ⟨r.1, 0, 0, n * size⟩) n n size, r.2)
          | some a => if size = sz then
              (if len + n ≤ room then (storeN h { a with i := a.i + len * size } 0 vs).bind fun h' => some (.slice (some a) (len + n) room sz, h')
              else growA h a len n sz vs) else none
        else none
    | _ => none)
  | _ => none
def copyA (h : Heap) (t : TypeId) (d s : AV) : Option (AV × Heap) :=
  match P.underlying t with
  | some (.slice e) =>
    (match d with
    | .slice a dl _ sz =>
      (sizeT P e).bind fun size => (lenA s).bind fun sl =>
        (srcCells h size (min sl dl) s).bind fun vs =>
        match a with
        | none => some (.int .i64 (min sl dl : Nat), h)
        | some a => if size = sz then (storeN h a 0 vs).bind fun h' => some (.int .i64 (min sl dl : Nat), h') else none
    | _ => none)
  | _ => none
def decodeA (l : List UInt8) (i : Nat) : Nat × Nat := Utf8.decode ⟨⟨l⟩⟩ i
def runeV (pos : Nat) : AV → Option AV
  | .str s => some (.int .i32 (decodeA s pos).1)
  | _ => none
def widthIs (pos n : Nat) : AV → Bool
  | .str s => Nat.beq (decodeA s pos).2 n
  | _ => false
def widthV (pos : Nat) : List AV → Option Nat
  | .str s :: r => if r.all (widthIs pos (decodeA s pos).2) then some (decodeA s pos).2 else none
  | _ => none
def nextA (h : Heap) : AV → Option (AV × Heap)
  | .ptr (some a) =>
    match h.objs.get a.b with
    | some (.iter s pos) =>
      if a.i = 0 then
        if pos < s.length then
          let d := decodeA s pos
          (h.objs.set a.b (.iter s (pos + d.2))).bind fun o => some (.tup [.bool true, .int .i64 pos, .int .i32 d.1], { h with objs := o })
        else some (.tup [.bool false], h)
      else none
    | some (.viter ss pos) =>
      if a.i = 0 then
        match lenA (.vec ss) with
        | some n => if pos < n then
            (mapO (runeV pos) ss).bind fun rs => (collapse rs).bind fun r => (widthV pos ss).bind fun d =>
            (h.objs.set a.b (.viter ss (pos + d))).bind fun o => some (.tup [.bool true, .int .i64 pos, r], { h with objs := o })
          else some (.tup [.bool false], h)
        | none => none
      else none
    | _ => none
  | _ => none
def byteOf : AV → Option UInt8
  | .int .u8 c => some (UInt8.ofNat c.toNat)
  | _ => none
/-- a row of bytes handed on as such a row: the model marks it -/
def sameA (h : Heap) (a : Option Loc) (n room sz : Nat) : Option (AV × Heap) :=
  match a with
  | some a => (match h.objs.get a.b with | some (.cells false gen _) => if 0 < room ∧ gen % 2 = 1 then some (.slice (some a) n room sz, h) else none | _ => none)
  | none => none
def convertA (h : Heap) (src dst : TypeId) (x : AV) : Option (AV × Heap) :=
  if (P.underlying src).isSome = false then none else
  match x with
  | .int _ n => (match P.underlying dst with | some (.int k) => some (.int k (k.wrap n), h) | some .string => some (.str (Utf8.encode n).data.toList, h) | _ => none)
  | .str l => (match P.underlying dst with
    | some .string => some (.str l, h)
    | some (.slice e) => (match P.underlying e with
      | some (.int .u8) => if l.length ≤ 16777216 then (newRow1 h (bytesA l)).bind fun r => some (.slice (some ⟨r.1, 1, 0, l.length⟩) l.length l.length 1, r.2) else none
      | _ => none)
    | _ => none)
  | .vec ls => (match P.underlying dst with
    | some (.slice e) => (match P.underlying e with
      | some (.int .u8) => (lenA (.vec ls)).bind fun n => if n ≤ 16777216 then (transB n ls).bind fun vs => (newRow1 h vs).bind fun r => some (.slice (some ⟨r.1, 1, 0, n⟩) n n 1, r.2) else none
      | _ => none)
    | _ => none)
  | .slice a n room sz => (match P.underlying src with
    | some (.slice e) => (match P.underlying dst with
      | some .string => (match P.underlying e with
        | some (.int .u8) => (match a with
          | none => some (.str [], h)
          | some a => if sz = 1 then (loadN h a 0 n).bind fun vs => (mapO byteOf vs).map fun l => (.str l, h) else none)
        | _ => none)
      | some (.slice e') => (match P.underlying e' with
        | some (.int .u8) => if src = dst then sameA h a n room sz else none
        | _ => none)
      | _ => none)
    | _ => none)
  | _ => none

/-- what an operation does: a value, nothing, a call -/
inductive ANext where
  | val (v : AV) (h : Heap)
  | skip (h : Heap)
  | enter (f : Nat) (args : List AV)
def pureO (h : Heap) (o : Option AV) : Option ANext := o.map fun v => .val v h
def pairO (o : Option (AV × Heap)) : Option ANext := o.map fun (v, h) => .val v h
abbrev Rho := Operand → Option AV
def oNone (ρ : Rho) (h : Heap) : Option ANext := none
def oMove (x : Operand) (ρ : Rho) (h : Heap) : Option ANext := pureO h (ρ x)
def pickV (ρ : Rho) (h : Heap) (a b : Operand) (c : AV) : Option ANext := match c with | .bool t => pureO h (ρ (if t then a else b)) | _ => none
def oPick (c a b : Operand) (ρ : Rho) (h : Heap) : Option ANext := (ρ c).bind (pickV ρ h a b)
def ptrOf (n : Nat) (r : Nat × Heap) : ANext := .val (.ptr (some ⟨r.1, 0, 0, n⟩)) r.2
def newVal (h : Heap) (v : AV) : Option ANext := (newRow h (cellsA v)).map (ptrOf (cellsA v).length)
def oAlloc (e : TypeId) (ρ : Rho) (h : Heap) : Option ANext := (zeroT P e).bind (newVal h)
def oBox (e : TypeId) (x : Operand) (ρ : Rho) (h : Heap) : Option ANext := (ρ x).bind (newVal h)
def partsA (ρ : Rho) (parts : Array (Nat × Operand)) : Option (List (Nat × AV)) := mapO (fun p => (ρ p.2).map fun v => (p.1, v)) parts.toList
def oBuild (t : TypeId) (parts : Array (Nat × Operand)) (ρ : Rho) (h : Heap) : Option ANext :=
  (zeroT P t).bind fun z => (placesT P t).bind fun pl => (partsA ρ parts).bind fun ps => pureO h ((fillA pl (cellsA z) ps).map .agg)
def sliceOf (n len room sz : Nat) (r : Nat × Heap) : ANext := .val (.slice (some ⟨r.1, 0, 0, n⟩) len room sz) r.2
def isU8 (e : TypeId) : Bool := match P.underlying e with | some (.int .u8) => true | _ => false
def newRowP (b : Bool) (h : Heap) (vs : List AV) : Option (Nat × Heap) := cond b (newRow1 h vs) (newRow h vs)
def slicePOf (b : Bool) (n len room sz : Nat) (r : Nat × Heap) : ANext := .val (.slice (some ⟨r.1, cond b 1 0, 0, n⟩) len room sz) r.2
def oBuildSlice (t : TypeId) (len : Nat) (parts : Array (Nat × Operand)) (ρ : Rho) (h : Heap) : Option ANext :=
  match P.underlying t with
  | some (.slice e) => (sizeT P e).bind fun n => (zeroT P e).bind fun z => (partsA ρ parts).bind fun ps =>
      if len ≤ 65536 ∧ 0 < n ∧ n ≤ 256 ∧ (cellsA z).length = n then (fillA (fun i => some (i * n, n)) (reps (cellsA z) len) ps).bind fun cs => (newRowP (isU8 P e) h cs).map (slicePOf (isU8 P e) (len * n) len len n) else none
  | _ => none
def oLoad (t : TypeId) (x : Operand) (ρ : Rho) (h : Heap) : Option ANext := (ρ x).bind fun p => pureO h (loadV P h t p)
def oStore (t : TypeId) (x y : Operand) (ρ : Rho) (h : Heap) : Option ANext := (ρ x).bind fun p => (ρ y).bind fun v => (storeV P h t p v).map .skip
def nilV (h : Heap) (v : AV) : Option ANext := match v with | .ptr (some a) => some (.val (.ptr (some a)) h) | .func f c => some (.val (.func f c) h) | _ => none
def oNilCheck (x : Operand) (ρ : Rho) (h : Heap) : Option ANext := (ρ x).bind (nilV h)
def isConstO : Operand → Bool
  | .const _ => true
  | _ => false
/-- two nil values of an interface: one of them must be the literal -/
def nilOk (c : Bool) (a b : AV) : Bool :=
  match a with
  | .nilI => (match b with | .nilI => c | _ => true)
  | _ => true
def oBin (op : BinOp) (t : TypeId) (x y : Operand) (_ : TypeId) (ρ : Rho) (h : Heap) : Option ANext := (ρ x).bind fun a => (ρ y).bind fun b => pureO h (bif nilOk (isConstO x || isConstO y) a b then binT P op t a b else none)
def oUn (op : UnOp) (_ : TypeId) (x : Operand) (ρ : Rho) (h : Heap) : Option ANext := (ρ x).bind fun a => pureO h (unA op a)
def oConvert (s d : TypeId) (x : Operand) (ρ : Rho) (h : Heap) : Option ANext := (ρ x).bind fun a => pairO (convertA P h s d a)
def optO (ρ : Rho) (x : Option Operand) : Option (Option AV) := match x with | some l => (ρ l).map some | none => some none
def oSlice (t : TypeId) (x : Operand) (lo hi mx : Option Operand) (ρ : Rho) (h : Heap) : Option ANext :=
  match mx with | some _ => none | none => (ρ x).bind fun a => (optO ρ lo).bind fun lo => (optO ρ hi).bind fun hi => pureO h (sliceA P t a lo hi)
def oFieldAddr (t : TypeId) (x : Operand) (f : Nat) (ρ : Rho) (h : Heap) : Option ANext := (ρ x).bind fun a => pureO h (fieldAddrA P t a f)
def oField (t : TypeId) (x : Operand) (f : Nat) (ρ : Rho) (h : Heap) : Option ANext := (ρ x).bind fun a => pureO h (fieldA P t a f)
def oIndexAddr (t : TypeId) (x i : Operand) (ρ : Rho) (h : Heap) : Option ANext := (ρ x).bind fun a => (ρ i).bind fun j => pureO h (indexAddrA P t a j)
def oIndex (t : TypeId) (x i : Operand) (ρ : Rho) (h : Heap) : Option ANext := (ρ x).bind fun a => (ρ i).bind fun j => pureO h (indexA P t a j)
def extV (h : Heap) (i : Nat) (a : AV) : Option ANext := match a with | .tup vs => pureO h (vs[i]?) | _ => none
def oExtract (x : Operand) (i : Nat) (ρ : Rho) (h : Heap) : Option ANext := (ρ x).bind (extV h i)
def oMakeFunc (fn : Fn) (first caps : Array Operand) (ρ : Rho) (h : Heap) : Option ANext :=
  match fn with | .func f => (if first.isEmpty then (mapO ρ caps.toList).bind fun cs => some (.val (.func f cs) h) else none) | _ => none
def mkV (h : Heap) (e : TypeId) (l c : AV) : Option ANext :=
  match l with
  | .int _ l => (match c with
    | .int _ c => (sizeT P e).bind fun n => (zeroT P e).bind fun z => if 0 ≤ l ∧ l ≤ c ∧ c ≤ 65536 ∧ 0 < n ∧ n ≤ 256 ∧ (cellsA z).length = n ∧ ((P.info? e).all fun i => decide (i.bytes ≤ 65536)) = true then (newRow h (reps (cellsA z) c.toNat)).map (sliceOf (c.toNat * n) l.toNat c.toNat n) else none
    | _ => none)
  | _ => none
def oMakeSlice (t : TypeId) (l c : Operand) (ρ : Rho) (h : Heap) : Option ANext :=
  match P.underlying t with | some (.slice e) => (ρ l).bind fun l => (ρ c).bind fun c => mkV P h e l c | _ => none
def iterOf (r : Nat × Heap) : ANext := .val (.ptr (some ⟨r.1, 0, 0, 1⟩)) r.2
def rangeV (t : TypeId) (h : Heap) (a : AV) : Option ANext :=
  match P.underlying t with
  | some .string => (match a with | .str l => (newObj h (.iter l 0)).map iterOf | .vec ls => (lenA (.vec ls)).bind fun _ => (newObj h (.viter ls 0)).map iterOf | _ => none)
  | some (.map _ _) => (match a with
    | .map (some b) => (match h.objs.get b with | some (.map es) => if es.length ≤ 1 then (newObj h (.miter b es.length false)).map iterOf else (newObj h (.mapit b es.length none)).map iterOf | _ => none)
    | _ => none)
  | _ => none
def oRange (t : TypeId) (x : Operand) (ρ : Rho) (h : Heap) : Option ANext := (ρ x).bind (rangeV P t h)
/-- the entry that an iterator over a map has come to -/
def entryM (h : Heap) : AV → Option AV
  | .ptr (some a) =>
    match h.objs.get a.b with
    | some (.mapit m n (some j)) =>
      if a.i = 0 then
        (match h.objs.get m with
        | some (.map es) => if es.length = n then (es[j]?).map fun e => .tup [e.1, e.2] else none
        | _ => none)
      else none
    | some (.miter m n true) =>
      if a.i = 0 then
        (match h.objs.get m with
        | some (.map es) => if es.length = n then (match es with | [e] => some (.tup [e.1, e.2]) | _ => none) else none
        | _ => none)
      else none
    | _ => none
  | _ => none
/-- the next entry of a map that has one at most -/
def nextM (h : Heap) : AV → Option (AV × Heap)
  | .ptr (some a) =>
    match h.objs.get a.b with
    | some (.miter m n seen) =>
      if a.i = 0 then
        (match h.objs.get m with
        | some (.map es) => if es.length = n then
            (match es with
            | [] => some (.tup [.bool false], h)
            | [e] => if seen then some (.tup [.bool false], h) else (h.objs.set a.b (.miter m n true)).map fun o => (.tup [.bool true, e.1, e.2], { h with objs := o })
            | _ => none) else none
        | _ => none)
      else none
    | _ => none
  | _ => none
def oEntry (x : Operand) (ρ : Rho) (h : Heap) : Option ANext := (ρ x).bind fun a => pureO h (entryM h a)
def oNext (x : Operand) (s : Bool) (ρ : Rho) (h : Heap) : Option ANext := bif s then (ρ x).bind fun a => pairO (nextA h a) else (ρ x).bind fun a => pairO (nextM h a)
/-! maps -/
/-- may a value be looked for among a map's keys? -/
def chkFs (chk : TypeId → AV → Bool) (xs : List AV) : List Field → Bool
  | [] => true
  | f :: fs => if f.name = "_" then false else (match partA P f.type xs f.offset with | some v => chk f.type v | none => false) && chkFs chk xs fs
def chkA : Nat → TypeId → AV → Bool
  | 0, _, _ => false
  | d + 1, t, x =>
    match P.underlying t with
    | some .bool => (match x with | .bool _ => true | _ => false)
    | some (.int _) => (match x with | .int _ _ => true | _ => false)
    | some .string => (match x with | .str _ => true | _ => false)
    | some (.struct fs) => (match x with | .agg xs => chkFs P (chkA d) xs fs.toList | _ => false)
    | _ => false
def scalar1 : AV → Bool
  | .bool _ | .int _ _ | .str _ => true
  | _ => false
def scalar2 : AV → Bool
  | .vec l => l.all scalar1
  | x => scalar1 x
def scalarV : AV → Bool
  | .agg l => l.all scalar2
  | x => scalar2 x
def allSame : List Bool → Option Bool
  | [] => none
  | b :: r => bif r.all (· == b) then some b else none
def eqK (kt : TypeId) (k e : AV) : Option Bool :=
  match eqIn P 5 kt k e with
  | some b => some b
  | none => firstD (fun n => (mapO (fun j => eqIn P 5 kt (atV n j k) (atV n j e)) (List.range n)).bind allSame) DIMS
def chkK (kt : TypeId) (k : AV) : Bool := chkA P 5 kt k || DIMS.any fun n => (List.range n).all fun j => chkA P 5 kt (atV n j k)
/-- the key's place among the entries, what is there -/
def findM (kt : TypeId) (k : AV) : List (AV × AV) → Nat → Option (Option (Nat × AV))
  | [], _ => some none
  | e :: es, i => (eqK P kt k e.1).bind fun b => if b then some (some (i, e.2)) else findM kt k es (i + 1)
def putE (k v : AV) : Nat → List (AV × AV) → List (AV × AV)
  | _, [] => []
  | 0, _ :: es => (k, v) :: es
  | i + 1, e :: es => e :: putE k v i es
def mapOf (r : Nat × Heap) : ANext := .val (.map (some r.1)) r.2
def oMakeMap (r : Option Operand) (ρ : Rho) (h : Heap) : Option ANext :=
  match r with | none => (newObj h (.map [])).map mapOf | some _ => none
def entsA (h : Heap) : AV → Option (List (AV × AV))
  | .map none => some []
  | .map (some b) => (match h.objs.get b with | some (.map es) => some es | _ => none)
  | _ => none
def lookV (h : Heap) (kt elem : TypeId) (ok : Bool) (m k : AV) : Option AV :=
  (entsA h m).bind fun es => bif chkK P kt k then (findM P kt k es 0).bind fun r => (zeroT P elem).map fun z =>
    match r with
    | some (_, v) => if ok then .tup [v, .bool true] else v
    | none => if ok then .tup [z, .bool false] else z
  else none
def oLookup (t : TypeId) (x i : Operand) (ok : Bool) (ρ : Rho) (h : Heap) : Option ANext :=
  match P.underlying t with
  | some (.map kt e) => (ρ x).bind fun m => (ρ i).bind fun k => pureO h (lookV P h kt e ok m k)
  | _ => none
def updV (h : Heap) (kt : TypeId) (m k v : AV) : Option Heap :=
  match m with
  | .map (some b) => (match h.objs.get b with
    | some (.map es) => bif chkK P kt k && scalarV k then (findM P kt k es 0).bind fun r =>
        (match r with
        | some (i, _) => (match es[i]? with | some e => if sameV k e.1 then some (putE k v i es) else none | none => none)
        | none => some (es ++ [(k, v)])).bind fun es' => (h.objs.set b (.map es')).map fun o => { h with objs := o }
      else none
    | _ => none)
  | _ => none
def oMapUpdate (t : TypeId) (m k v : Operand) (ρ : Rho) (h : Heap) : Option ANext :=
  match P.underlying t with
  | some (.map kt _) => (ρ m).bind fun m => (ρ k).bind fun k => (ρ v).bind fun v => (updV P h kt m k v).map .skip
  | _ => none
def one1 (f : AV → Option ANext) (xs : List AV) : Option ANext := match xs with | [x] => f x | _ => none
def two2 (f : AV → AV → Option ANext) (xs : List AV) : Option ANext := match xs with | [x, y] => f x y | _ => none
def minI (k : IntKind) (a b : Int) : Option AV := some (.int k (if b < a then b else a))
def maxI (k : IntKind) (a b : Int) : Option AV := some (.int k (if b > a then b else a))
def moreT (u : TypeId) : Bool := match P.underlying u with | some (.int _) => false | some _ => true | none => false
def lenT (t : TypeId) (x : AV) : Option AV :=
  match P.underlying t with
  | some .string => (match x with | .str l => some (.int .i64 l.length) | _ => none)
  | some (.slice _) => (match x with | .slice _ n _ _ => some (.int .i64 n) | _ => none)
  | _ => none
def clearA (t : TypeId) (h : Heap) (x : AV) : Option ANext :=
  match P.underlying t with
  | some (.slice e) => (match x with
    | .slice none _ _ _ => some (.val (.tup []) h)
    | .slice (some a) n _ sz => (sizeT P e).bind fun size => (zeroT P e).bind fun z => if size = sz ∧ (cellsA z).length = size then (storeN h a 0 (reps (cellsA z) n)).map fun h => .val (.tup []) h else none
    | _ => none)
  | _ => none
def builtinA (b : Builtin) (ts : Array TypeId) (h : Heap) (xs : List AV) : Option ANext :=
  match b with
  | .len => one1 (fun x => (ts[0]?).bind fun t => pureO h (lenT P t x)) xs
  | .append => two2 (fun s x => (ts[0]?).bind fun t => (ts[1]?).bind fun u => if moreT P u then pairO (appendA P h t s x) else none) xs
  | .copy => two2 (fun s x => (ts[0]?).bind fun t => pairO (copyA P h t s x)) xs
  | .clear => one1 (fun x => (ts[0]?).bind fun t => clearA P t h x) xs
  | .min => two2 (fun x y => pureO h (int2 minI x y)) xs
  | .max => two2 (fun x y => pureO h (int2 maxI x y)) xs
  | _ => none
def enterV (xs : List AV) (f : AV) : Option ANext := match f with | .func f caps => some (.enter f (xs ++ caps)) | _ => none
def oCall (c : Call) (ρ : Rho) (h : Heap) : Option ANext :=
  (mapO ρ c.args.toList).bind fun xs =>
    match c.callee with
    | .builtin b => builtinA P b c.argTypes h xs
    | .value x => (ρ x).bind (enterV xs)
    | _ => none
def opA (o : Op) : Rho → Heap → Option ANext :=
  match o with
  | .move x | .assign x => oMove x
  | .pick c a b => oPick c a b
  | .alloc e => oAlloc P e
  | .box e x => oBox e x
  | .build t ps => oBuild P t ps
  | .buildSlice t n ps => oBuildSlice P t n ps
  | .load t x => oLoad P t x
  | .store t x y => oStore P t x y
  | .nilCheck x => oNilCheck x
  | .binOp op t x y u => oBin P op t x y u
  | .unOp op t x => oUn op t x
  | .convert s d x => oConvert P s d x
  | .makeFunc f a c => oMakeFunc f a c
  | .makeSlice t l c => oMakeSlice P t l c
  | .slice t x l h m => oSlice P t x l h m
  | .fieldAddr t x f => oFieldAddr P t x f
  | .field t x f => oField P t x f
  | .indexAddr t x i => oIndexAddr P t x i
  | .index t x i => oIndex P t x i
  | .range t x => oRange P t x
  | .next x s => oNext x s
  | .entry x => oEntry x
  | .extract x i => oExtract x i
  | .call c => oCall P c
  | .makeMap _ r => oMakeMap r
  | .lookup t x i ok => oLookup P t x i ok
  | .mapUpdate t m k x | .insert t m k x => oMapUpdate P t m k x
  | _ => oNone
def aop0 (ρ : Rho) (h : Heap) (o : Oper) : Option ANext := opA P o.op ρ h
/-- operations that may be done lane by lane -/
def pureL (o : Oper) : Bool :=
  match o.op with
  | .binOp .. | .unOp .. | .slice .. | .fieldAddr .. | .indexAddr .. | .index .. | .load .. | .lookup .. => true
  | .call c => (match c.callee with | .builtin .len => true | _ => false)
  | .convert _ d _ => (match P.underlying d with | some (.int _) | some .string => true | _ => false)
  | _ => false
def laneR (n j : Nat) (ρ : Rho) : Rho := fun x => (ρ x).map (atV n j)
def valO : Option ANext → Option AV
  | some (.val v _) => some v
  | _ => none
def laneV (ρ : Rho) (h : Heap) (o : Oper) (n j : Nat) : Option AV := valO (aop0 P (laneR n j ρ) (projH n j h) o)
def lanesN (ρ : Rho) (h : Heap) (o : Oper) (n : Nat) : Option AV := (mapO (laneV P ρ h o n) (List.range n)).bind collapse
def lanesA (ρ : Rho) (h : Heap) (o : Oper) : Option ANext :=
  bif pureL P o then (firstD (lanesN P ρ h o) DIMS).map fun v => .val v h else none
def orElseL (x y : Option ANext) : Option ANext := match x with | some r => some r | none => y
/-! operations more -/
def eqS (op : BinOp) (t : TypeId) (x y : AV) : Option AV :=
  match x with
  | .agg xs => (match y with
    | .agg ys => bif P.eqGuardType P.depth t then none else (eqIn P 5 t (.agg xs) (.agg ys)).bind fun c => (match op with | .eql => some (.bool c) | .neq => some (.bool (!c)) | _ => none)
    | _ => none)
  | _ => none
def orElseV (x y : Option AV) : Option AV := match x with | some r => some r | none => y
/-- below a number that is known to be great -/
def lssL (op : BinOp) (x y : AV) : Option AV :=
  match op with
  | .lss => (match y with
    | .big _ lo => (match x with
      | .int k a => bif k == .i64 && decide (a < (lo : Int)) then some (.bool true) else none
      | _ => none)
    | _ => none)
  | _ => none
def scal1 : AV → Bool
  | .int _ _ | .str _ => true
  | _ => false
/-- two values that are told for runs of which it is known that they differ -/
def unlike (l m : List AV) : Bool := (List.range CAP).all fun i => (List.range CAP).all fun j => Nat.beq i j || (match l[i]? with
  | some x => (match m[j]? with | some y => scal1 x && scal1 y && (match x with | .int k a => (match y with | .int k' b => k == k' && !(a == b) | _ => false) | .str a => (match y with | .str b => !(a == b) | _ => false) | _ => false) | none => true)
  | none => true)
def diffS (op : BinOp) (x y : AV) : Option AV :=
  match x with
  | .vec l => (match y with
    | .vec m => bif DIFF.any (fun p => (Nat.beq p.1 l.length && Nat.beq p.2 m.length) || (Nat.beq p.2 l.length && Nat.beq p.1 m.length)) && unlike l m then (match op with | .eql => some (.bool false) | .neq => some (.bool true) | _ => none) else none
    | _ => none)
  | _ => none
def oEqS (op : BinOp) (t : TypeId) (x y : Operand) (ρ : Rho) (h : Heap) : Option ANext := (ρ x).bind fun a => (ρ y).bind fun b => pureO h (orElseV (eqS P op t a b) (orElseV (lssL op a b) (diffS op a b)))
/-- a slice of which the first places alone are known -/
def lenL : AV → Option AV
  | .lslice _ n i ex => some (cond ex (.int .i64 n) (.big i n))
  | _ => none
def oLenL (c : Call) (ρ : Rho) (h : Heap) : Option ANext :=
  match c.callee with
  | .builtin .len => (mapO ρ c.args.toList).bind fun xs => one1 (fun x => (c.argTypes[0]?).bind fun t => match P.underlying t with | some (.slice _) => pureO h (lenL x) | _ => none) xs
  | _ => none
def idxL (t : TypeId) (x ix : AV) : Option AV :=
  match ix with
  | .int _ i =>
    (match P.underlying t with
    | some (.slice e) => (match x with
      | .lslice a n _ _ => (sizeT P e).bind fun z => if z = 1 then atA a n z i else none
      | _ => none)
    | _ => none)
  | _ => none
def oIdxL (t : TypeId) (x i : Operand) (ρ : Rho) (h : Heap) : Option ANext := (ρ x).bind fun a => (ρ i).bind fun j => pureO h (idxL P t a j)
def oSlice3 (t : TypeId) (x : Operand) (lo hi mx : Option Operand) (ρ : Rho) (h : Heap) : Option ANext :=
  match mx with
  | some m => (match hi with
    | some hi => (ρ x).bind fun a => (optO ρ lo).bind fun lo => (ρ hi).bind fun hi => (ρ m).bind fun m => pureO h (slice3A P t a lo hi m)
    | none => none)
  | none => none
def entV (h : Heap) (kt el : TypeId) (m k : AV) : Option (AV × Heap) :=
  match m with
  | .map (some b) => (match h.objs.get b with
    | some (.map es) => bif chkK P kt k && scalarV k then (findM P kt k es 0).bind fun r =>
        (match r with
        | some (i, v) => (match es[i]? with | some e => if sameV k e.1 && sameV v e.2 then some (AV.tup [v, .int .i64 (i : Nat)], putE k v i es) else none | none => none)
        | none => (zeroT P el).map fun z => (AV.tup [z, .int .i64 (es.length : Nat)], es ++ [(k, z)])).bind fun r => (h.objs.set b (.map r.2)).map fun o => (r.1, { h with objs := o })
      else none
    | _ => none)
  | _ => none
def oMapEntry (t : TypeId) (m k : Operand) (ρ : Rho) (h : Heap) : Option ANext :=
  match P.underlying t with
  | some (.map kt el) => (ρ m).bind fun m => (ρ k).bind fun k => pairO (entV P h kt el m k)
  | _ => none
def storV (h : Heap) (m s v : AV) : Option Heap :=
  match m with
  | .map (some b) => (match h.objs.get b with
    | some (.map es) => (match s with
      | .int _ (.ofNat i) => (match es[i]? with
        | some e => (h.objs.set b (.map (putE e.1 v i es))).map fun o => { h with objs := o }
        | none => none)
      | _ => none)
    | _ => none)
  | _ => none
def oEntryStore (m s v : Operand) (ρ : Rho) (h : Heap) : Option ANext := (ρ m).bind fun m => (ρ s).bind fun s => (ρ v).bind fun v => (storV h m s v).map .skip
def extraO (o : Oper) : Bool :=
  match o.op with
  | .binOp .. | .slice .. | .mapEntry .. | .entryStore .. | .call .. | .indexAddr .. => true
  | _ => false
def aopX (ρ : Rho) (h : Heap) (o : Oper) : Option ANext :=
  match o.op with
  | .binOp op t x y _ => oEqS P op t x y ρ h
  | .slice t x lo hi mx => oSlice3 P t x lo hi mx ρ h
  | .mapEntry t m k => oMapEntry P t m k ρ h
  | .entryStore _ m s v => oEntryStore m s v ρ h
  | .call c => oLenL P c ρ h
  | .indexAddr t x i => oIdxL P t x i ρ h
  | _ => none
def aopY (ρ : Rho) (h : Heap) (o : Oper) : Option ANext := orElseL (aopX P ρ h o) (lanesA P ρ h o)
def aop (ρ : Rho) (h : Heap) (o : Oper) : Option ANext := orElseL (aop0 P ρ h o) (aopY P ρ h o)
end ops

/-! control -/
inductive AEx where
  | normal | exit (id : Nat) | ret
section run
variable (P : Program) (glob : Nat → Option AV) (call : Nat → List AV → Heap → Option (AV × Heap)) (L : Nat) (N : Nat)
def putA (fr : Fr) (dst : Option Tmp) (v : AV) : Option Fr :=
  match dst with
  | some d => if d < N then fr.set d v else none
  | none => some fr
def yieldA (ops : Array Oper) (fr : Fr) (j : Nat) : Option Bool :=
  match ((ops[j]?).bind (·.dst)).bind fr.get with
  | some (.bool b) => some b
  | _ => none
def wantA (ops : Array Oper) (fr : Fr) (o : Oper) : Bool :=
  match o.guard with
  | none => true
  | some (j, want) => match yieldA ops fr j with | some b => b == want | none => false
/-- is it known whether the operation is to be done? -/
def guardLive (ops : Array Oper) (fr : Fr) (o : Oper) : Bool :=
  match o.guard with
  | none => true
  | some (j, _) => match ((ops[j]?).bind (·.dst)).bind fr.get with | some .any => false | some (.vec _) => false | _ => true
def mkSt (h : Heap) (fr : Fr) : St := ⟨fr, h⟩
def afterA (fr : Fr) (h : Heap) (dst : Option Tmp) (r : ANext) : Option St :=
  match r with
  | .val v h => (putA N fr dst v).map (mkSt h)
  | .skip h => (putA N fr dst .u).map (mkSt h)
  | .enter f args => (call f args h).bind fun r => (putA N fr dst r.1).map (mkSt r.2)
def stepA (ops : Array Oper) (st : St) (o : Oper) : Option St :=
  bif guardLive ops st.fr o then (bif wantA ops st.fr o then (aop P (evalO glob st.fr) st.h o).bind (afterA call N st.fr st.h o.dst) else (putA N st.fr o.dst .u).map (mkSt st.h)) else none
def opsA (ops : Array Oper) : List Oper → St → Option St
  | [], st => some st
  | o :: r, st => (stepA P glob call N ops st o).bind (opsA ops r)
/-! regions that draw their order -/
/-- kinds of operations: 0 hangs on its operands alone, 1 reads the memory, 2 does anything -/
def kindA (o : Oper) : Nat :=
  match o.op with
  | .move _ | .assign _ | .pick .. | .binOp .. | .unOp .. | .slice .. | .fieldAddr .. | .field .. | .indexAddr .. | .index .. | .extract .. | .nilCheck _ | .build .. | .makeFunc .. => 0
  | .call c => (match c.callee with | .builtin .len | .builtin .min | .builtin .max => 0 | _ => 2)
  | .convert _ d _ => (match P.underlying d with | some (.int _) => 0 | some .string => 1 | _ => 2)
  | .load .. | .lookup .. => 1
  | _ => 2
def edgesA (o : Oper) : List Nat := (o.after.toList.filter (Region.binds .any)).map (·.on)
/-- who must be ahead of each -/
def preOf (i : Nat) (o : Oper) (acc : List (List Nat)) : List Nat := (List.range i).filter fun j => (edgesA o).contains j || (edgesA o).any fun e => (acc.getD e []).contains j
def preA : List Oper → List (List Nat) → List (List Nat)
  | [], acc => acc
  | o :: r, acc => preA r (acc ++ [preOf acc.length o acc])
def evalR (fr : Fr) (reads : List Nat) : Rho
  | .tmp t => if reads.contains t then tmpV fr t else none
  | x => evalO glob fr x
def isChain (ops : List Oper) (i : Nat) : Bool := match ops[i]? with | some o => kindA P o == 2 | none => false
/-- may two operations be done in either order? -/
def freely (ops : Array Oper) (x y : Oper) : Bool := x.apart ops y && (kindA P x != 2 || kindA P y != 2)
/-- a new variable, or a new row of no bytes: it may be made ahead of what stands before it -/
def isAllocO (o : Oper) : Bool :=
  match o.op with
  | .alloc _ => o.guard.isNone && o.dst.isSome
  | .buildSlice t _ _ => (o.guard.isNone && o.dst.isSome) && (match P.underlying t with | some (.slice e) => !isU8 P e | _ => false)
  | _ => false
def isRowO (o : Oper) : Bool := match o.op with | .buildSlice _ _ _ => true | _ => false
def pairOk (ops : Array Oper) (pre : List Nat) (x o : Oper) (j : Nat) : Bool := (pre.contains j && (x.dst.isNone || x.dst != o.dst)) || (freely P ops x o || (isAllocO P o && x.apart ops o))
def looseA (ops : List Oper) (j : Nat) : Bool := (match ops[j]? with | some o => isAllocO P o | none => false) && (List.range j).any fun c => isChain P ops c && !((preA ops []).getD j []).contains c
/-- a link of the chain that is no such variable -/
def isLink (ops : List Oper) (k : Nat) : Bool := match ops[k]? with | some o => kindA P o == 2 && !isAllocO P o | none => false
/-- a link that hangs on nothing's value, or on no such variable -/
def exemptO (ops : List Oper) (i : Nat) : Bool := match ops[i]? with | some o => kindA P o == 2 && !(isAllocO P o && isRowO o) | none => false
/-- who hangs on such a variable is a link of the chain, or hangs on a later link, too -/
def looseOk (ops : List Oper) : Bool := (List.range ops.length).all fun i => exemptO P ops i || (List.range ops.length).all fun j => !(looseA P ops j && ((preA ops []).getD i []).contains j) || (List.range ops.length).any fun k => ((preA ops []).getD i []).contains k && (isLink P ops k && decide (j < k))
def orderly (ops : Array Oper) : Bool :=
  looseOk P ops.toList && ops.toList.zipIdx.all fun z => (edgesA z.1).all (fun e => decide (e < z.2)) &&
    (ops.toList.take z.2).zipIdx.all fun y => pairOk P ops ((preA ops.toList []).getD z.2 []) y.1 z.1 y.2
/-- the states of the region, in the order of the text -/
def stepD (ops : Array Oper) (st : St) (o : Oper) : Option St :=
  bif guardLive ops st.fr o then (bif wantA ops st.fr o then (aop P (evalR glob st.fr (o.looksAt ops)) st.h o).bind (afterA call N st.fr st.h o.dst) else (putA N st.fr o.dst .u).map (mkSt st.h)) else none
def statesA (ops : Array Oper) : List Oper → St → Option (List St)
  | [], st => some [st]
  | o :: r, st => (stepD P glob call N ops st o).bind fun st' => (statesA ops r st').map fun l => st :: l
/-- from which state's memory on may an operation be done? -/
def window (pre : List (List Nat)) (ops : List Oper) (i s : Nat) : Bool :=
  (List.range ops.length).all fun c => !isChain P ops c || ((!(pre.getD i []).contains c || decide (c < s)) && (!(pre.getD c []).contains i || decide (s ≤ c)))
def between (ops : List Oper) (i s : Nat) : Bool :=
  (List.range ops.length).any fun c => isChain P ops c && (decide (c < i) != decide (c < s))
/-- where a reading operation must be looked at: the operation, the state -/
def looks (ops : List Oper) : List (Nat × Nat) :=
  (List.range ops.length).flatMap fun i => match ops[i]? with
    | some o => if kindA P o == 1 then ((List.range (ops.length + 1)).filter fun s => (s == 0 || isChain P ops (s - 1)) && window P (preA ops []) ops i s && between P ops i s).map fun s => (i, s) else []
    | none => []
def steady1 (ops : Array Oper) (sts : List St) (z : Nat × Nat) : Bool :=
  match ops[z.1]? with
  | some o => (match sts[z.1]? with
    | some st => (match sts[z.2]? with
      | some st' => !wantA ops st.fr o || (match aop P (evalR glob st.fr (o.looksAt ops)) st.h o with
        | some (.val v _) => (match aop P (evalR glob st.fr (o.looksAt ops)) st'.h o with
          | some (.val v' _) => sameV v v'
          | _ => false)
        | _ => false)
      | none => false)
    | none => false)
  | none => false
def lastO : List St → Option St
  | [] => none
  | [x] => some x
  | _ :: l => lastO l
def anyA (ops : Array Oper) (st : St) : Option St :=
  bif orderly P ops then (statesA P glob call N ops ops.toList st).bind fun sts =>
    bif (looks P ops.toList).all (steady1 P glob ops sts) then lastO sts else none
  else none
def iterA (body : St → Option (AEx × St)) : Nat → St → Option (AEx × St)
  | 0, _ => none
  | n + 1, st => (body st).bind fun r =>
    match r with
    | (.normal, st) => iterA body n st
    | r => some r
def codeA : Code → St → Option (AEx × St)
  | .skip, st => some (.normal, st)
  | .label _, st => some (.normal, st)
  | .region _ ops d, st => if d then (anyA P glob call N ops st).map fun st => (.normal, st) else (opsA P glob call N ops ops.toList st).map fun st => (.normal, st)
  | .seq a b, st => (codeA a st).bind fun r => match r with | (.normal, st) => codeA b st | r => some r
  | .cond c a b, st => (evalO glob st.fr c).bind fun v => match v with | .bool true => codeA a st | .bool false => codeA b st | _ => none
  | .block id b, st => (codeA b st).map fun r => match r with | (.exit id', st) => if id' = id then (.normal, st) else (.exit id', st) | r => r
  | .loop b, st => iterA (codeA b) L st
  | .exit id, st => some (.exit id, st)
  | .ret, st => some (.ret, st)
  | _, _ => none
def argsFr : Nat → List AV → Fr → Option Fr
  | _, [], fr => some fr
  | i, v :: r, fr => (fr.set i v).bind (argsFr (i + 1) r)
def resA (h : Heap) (fr : Fr) : ResultVar → Option AV
  | .tmp t => (fr.get t).bind liveV
  | .cell a t => ((fr.get a).bind liveV).bind fun p => loadV P h t p
/-! functions that the model answers by itself -/
def bytesO (h : Heap) : AV → Option (List UInt8)
  | .str l => some l
  | .slice none _ _ _ => some []
  | .slice (some a) n _ sz => if sz = 1 then (loadN h a 0 n).bind (mapO byteOf) else none
  | _ => none
def findI (c : UInt8) : List UInt8 → Nat → Option Nat
  | [], _ => none
  | x :: l, i => bif x == c then some i else findI c l (i + 1)
def indexOut : Option Nat → AV
  | some i => .int .i64 (.ofNat i)
  | none => .int .i64 (-1)
def indexByteA (h : Heap) (args : List AV) : Option (AV × Heap) :=
  match args with
  | [b, c] => (bytesO h b).bind fun l => (byteOf c).map fun c => (indexOut (findI c l 0), h)
  | _ => none
def extA (fn : Func) (args : List AV) (h : Heap) : Option (AV × Heap) :=
  if fn.origin = "" then
    (if fn.name = "internal/bytealg.IndexByte" then indexByteA h args
    else if fn.name = "internal/bytealg.IndexByteString" then indexByteA h args
    else none)
  else none
def fstO : Option (AV × Heap) → Option AV
  | some (v, _) => some v
  | none => none
def lanesE (fn : Func) (args : List AV) (h : Heap) : Option (AV × Heap) :=
  (firstD (fun n => (mapO (fun j => fstO (extA fn (args.map (atV n j)) (projH n j h))) (List.range n)).bind collapse) DIMS).map fun v => (v, h)
/-- the bytes that a value may be -/
def bytesV : AV → Option (List UInt8)
  | .int .u8 c => some [UInt8.ofNat c.toNat]
  | .vec l => mapO byteOf l
  | _ => none
/-- where a byte is found, whichever of these bytes there are -/
def findV (c : UInt8) : List (List UInt8) → Nat → Option (Option Nat)
  | [], _ => some none
  | bs :: l, i => bif bs.all (fun x => !(x == c)) then findV c l (i + 1) else (bif bs.all (fun x => x == c) then some (some i) else none)
def indexByteV (h : Heap) (args : List AV) : Option (AV × Heap) :=
  match args with
  | [.slice (some a) n _ sz, c] => if sz = 1 then (loadN h a 0 n).bind fun vs => (mapO bytesV vs).bind fun bs => (byteOf c).bind fun c => (findV c bs 0).map fun r => (indexOut r, h) else none
  | _ => none
def extW (fn : Func) (args : List AV) (h : Heap) : Option (AV × Heap) :=
  if fn.origin = "" then
    (if fn.name = "internal/bytealg.IndexByte" then indexByteV h args
    else if fn.name = "internal/bytealg.IndexByteString" then indexByteV h args
    else none)
  else none
def extL (fn : Func) (args : List AV) (h : Heap) : Option (AV × Heap) := match extA fn args h with | some r => some r | none => (match lanesE fn args h with | some r => some r | none => extW fn args h)
def tupA : List AV → AV
  | [v] => v
  | vs => .tup vs
end run
/-! ranges over functions: the machine in a round, and in the function that is ranged over -/
abbrev YieldT := List AV → Heap → Option (AV × Heap)
def noYield : YieldT := fun _ _ => none
section yields
variable (P : Program) (glob : Nat → Option AV) (call : Nat → List AV → Heap → Option (AV × Heap)) (yb : Nat) (yc : YieldT) (L N : Nat)
/-- is the operation a call of the loop's own function? -/
def yieldArgs (ρ : Rho) (o : Oper) : Option (List AV) :=
  match o.op with
  | .call c => (match c.callee with
    | .value x => (match ρ x with
      | some (.yld b) => bif Nat.beq b yb then mapO ρ c.args.toList else none
      | _ => none)
    | _ => none)
  | _ => none
def stepI (ops : Array Oper) (st : St) (o : Oper) : Option St :=
  match yieldArgs yb (evalO glob st.fr) o with
  | some xs => bif guardLive ops st.fr o then (bif wantA ops st.fr o then (yc xs st.h).bind fun r => (putA N st.fr o.dst r.1).map (mkSt r.2) else (putA N st.fr o.dst .u).map (mkSt st.h)) else none
  | none => stepA P glob call N ops st o
def opsI (ops : Array Oper) : List Oper → St → Option St
  | [], st => some st
  | o :: r, st => (stepI P glob call yb yc N ops st o).bind (opsI ops r)
def codeI : Code → St → Option (AEx × St)
  | .skip, st => some (.normal, st)
  | .label _, st => some (.normal, st)
  | .region _ ops d, st => if d then none else (opsI P glob call yb yc N ops ops.toList st).map fun st => (.normal, st)
  | .seq a b, st => (codeI a st).bind fun r => match r with | (.normal, st) => codeI b st | r => some r
  | .cond c a b, st => (evalO glob st.fr c).bind fun v => match v with | .bool true => codeI a st | .bool false => codeI b st | _ => none
  | .block id b, st => (codeI b st).map fun r => match r with | (.exit id', st) => if id' = id then (.normal, st) else (.exit id', st) | r => r
  | .loop b, st => iterA (codeI b) L st
  | .exit id, st => some (.exit id, st)
  | .ret, st => some (.ret, st)
  | _, _ => none
def outA (fn : Func) (r : AEx × St) : Option (AV × Heap) :=
  match r with
  | (.normal, st) | (.ret, st) => (mapO (resA P st.h st.fr) fn.results.toList).map fun vs => (tupA vs, st.h)
  | _ => none
def funcI (f : Nat) (args : List AV) (h : Heap) : Option (AV × Heap) :=
  (P.funcs[f]?).bind fun fn => match fn.body with | none => none | some c => (argsFr 0 args .nil).bind fun fr => (if args.length ≤ fn.ntmps then codeI P glob call yb yc L fn.ntmps c ⟨fr, h⟩ else none).bind (outA P fn)
end yields
section ranges
variable (P : Program) (glob : Nat → Option AV) (call : Nat → List AV → Heap → Option (AV × Heap)) (L N : Nat)
def putAll : Fr → List Tmp → List AV → Option Fr
  | fr, [], [] => some fr
  | fr, t :: ts, x :: xs => (putA N fr (some t) x).bind fun fr => putAll fr ts xs
  | _, _, _ => none
/-- a round of the loop: its frame is the one that the loop was come to with -/
def roundA (ps : Array Tmp) (assign body : Code) (fr0 : Fr) : YieldT := fun xs h =>
  (putAll N fr0 ps.toList xs).bind fun fr => (codeI P glob call 0 noYield L N assign ⟨fr, h⟩).bind fun r => match r with
    | (.normal, st) => (codeI P glob call 0 noYield L N body st).bind fun r => match r with
      | (.normal, st) => some (.bool true, st.h)
      | _ => none
    | _ => none
def rangeA (g : Operand) (ps : Array Tmp) (assign body : Code) (st : St) : Option St :=
  (evalO glob st.fr g).bind fun v => match v with
    | .func f cs => (funcI P glob call st.h.next (roundA P glob call L N ps assign body st.fr) L f (.yld st.h.next :: cs) ⟨st.h.next + 1, st.h.objs⟩).map fun r => ⟨st.fr, r.2⟩
    | _ => none
def hasRange : Code → Bool
  | .rangeFunc _ _ _ _ => true
  | .seq a b => hasRange a || hasRange b
  | .cond _ a b => hasRange a || hasRange b
  | .block _ b => hasRange b
  | .loop b => hasRange b
  | _ => false
def codeD : Code → St → Option (AEx × St)
  | .skip, st => some (.normal, st)
  | .label _, st => some (.normal, st)
  | .region _ ops d, st => if d then (anyA P glob call N ops st).map fun st => (.normal, st) else (opsA P glob call N ops ops.toList st).map fun st => (.normal, st)
  | .seq a b, st => (codeD a st).bind fun r => match r with | (.normal, st) => codeD b st | r => some r
  | .cond c a b, st => (evalO glob st.fr c).bind fun v => match v with | .bool true => codeD a st | .bool false => codeD b st | _ => none
  | .block id b, st => (codeD b st).map fun r => match r with | (.exit id', st) => if id' = id then (.normal, st) else (.exit id', st) | r => r
  | .loop b, st => iterA (codeD b) L st
  | .exit id, st => some (.exit id, st)
  | .ret, st => some (.ret, st)
  | .rangeFunc g ps assign body, st => (rangeA P glob call L N g ps assign body st).map fun st => (.normal, st)
  | _, _ => none
def funcA (f : Nat) (args : List AV) (h : Heap) : Option (AV × Heap) :=
  (P.funcs[f]?).bind fun fn => match fn.body with | none => extL fn args h | some c => (argsFr 0 args .nil).bind fun fr => (if args.length ≤ fn.ntmps then (bif hasRange c then codeD P glob call L fn.ntmps c ⟨fr, h⟩ else codeA P glob call L fn.ntmps c ⟨fr, h⟩) else none).bind fun r =>
    match r with
    | (.normal, st) | (.ret, st) => (mapO (resA P st.h st.fr) fn.results.toList).map fun vs => (tupA vs, st.h)
    | _ => none
end ranges
/-- functions whose answers are shown by hand -/
abbrev HookT := Nat → List AV → Heap → Option (AV × Heap)
def noHook : HookT := fun _ _ _ => none
def orHook (x y : Option (AV × Heap)) : Option (AV × Heap) := match x with | some r => some r | none => y
def callA (P : Program) (glob : Nat → Option AV) (hk : HookT) (L : Nat) : Nat → Nat → List AV → Heap → Option (AV × Heap)
  | 0, _, _, _ => none
  | n + 1, f, args, h => orHook (hk f args h) (funcA P glob (callA P glob hk L n) L f args h)
end Go.Vai
/- The abstract machine: what its memory says of the model's world, and what stays so. -/
namespace Go.Vai
set_option linter.unusedVariables false
set_option linter.unusedSimpArgs false
set_option linter.unusedSectionVars false
variable [Lane]

namespace Tr
variable {α : Type}
theorem lt16 {d : Nat} (h : d < 16) : d = 0 ∨ d = 1 ∨ d = 2 ∨ d = 3 ∨ d = 4 ∨ d = 5 ∨ d = 6 ∨ d = 7 ∨ d = 8 ∨ d = 9 ∨ d = 10 ∨ d = 11 ∨ d = 12 ∨ d = 13 ∨ d = 14 ∨ d = 15 := by omega
theorem ch_set (t : Tr α) (g : Tr α → Tr α) {d : Nat} (h : d < 16) : (chB d).f ((setB d).f t g) = g ((chB d).f t) := by
  rcases lt16 h with rfl|rfl|rfl|rfl|rfl|rfl|rfl|rfl|rfl|rfl|rfl|rfl|rfl|rfl|rfl|rfl <;> rcases t with _ | ⟨v, ⟨⟩⟩ <;> rfl
theorem ch_set_ne (t : Tr α) (g : Tr α → Tr α) {d d' : Nat} (h : d < 16) (h' : d' < 16) (hne : d' ≠ d) : (chB d').f ((setB d).f t g) = (chB d').f t := by
  rcases lt16 h with rfl|rfl|rfl|rfl|rfl|rfl|rfl|rfl|rfl|rfl|rfl|rfl|rfl|rfl|rfl|rfl <;> rcases lt16 h' with rfl|rfl|rfl|rfl|rfl|rfl|rfl|rfl|rfl|rfl|rfl|rfl|rfl|rfl|rfl|rfl <;>
    first | exact absurd rfl hne | (rcases t with _ | ⟨v, ⟨⟩⟩ <;> rfl)
theorem root_set (t : Tr α) (g : Tr α → Tr α) {d : Nat} (h : d < 16) : rootB.f ((setB d).f t g) = rootB.f t := by
  rcases lt16 h with rfl|rfl|rfl|rfl|rfl|rfl|rfl|rfl|rfl|rfl|rfl|rfl|rfl|rfl|rfl|rfl <;> rcases t with _ | ⟨v, ⟨⟩⟩ <;> rfl
theorem root_top (t : Tr α) (x : α) : rootB.f (topB.f x t) = some x := by rcases t with _ | ⟨v, ⟨⟩⟩ <;> rfl
theorem ch_top (t : Tr α) (x : α) {d : Nat} (h : d < 16) : (chB d).f (topB.f x t) = (chB d).f t := by
  rcases lt16 h with rfl|rfl|rfl|rfl|rfl|rfl|rfl|rfl|rfl|rfl|rfl|rfl|rfl|rfl|rfl|rfl <;> rcases t with _ | ⟨v, ⟨⟩⟩ <;> rfl
theorem getB_zero (n : Nat) : (getB (α := α) (n + 1) 0) = rootB := rfl
theorem getB_pos (n : Nat) {k : Nat} (h : k ≠ 0) (t : Tr α) : (getB (n + 1) k).f t = (getB n ((k - 1) / 16)).f ((chB ((k - 1) % 16)).f t) := by
  have e : Nat.beq k 0 = false := by cases k with
    | zero => exact absurd rfl h
    | succ k => rfl
  simp only [getB, e, cond_false]
theorem putB_pos (n : Nat) {k : Nat} (h : k ≠ 0) (x : α) (t : Tr α) : (putB (n + 1) k).f x t = (setB ((k - 1) % 16)).f t ((putB n ((k - 1) / 16)).f x) := by
  have e : Nat.beq k 0 = false := by cases k with
    | zero => exact absurd rfl h
    | succ k => rfl
  simp only [putB, e, cond_false]
theorem get_put_n : ∀ (n : Nat) (t : Tr α) (k : Nat) (x : α), k + 1 < 2 ^ n → ∀ k', (getB n k').f ((putB n k).f x t) = if k' = k then some x else (getB n k').f t
  | 0, t, k, x, h, k' => by simp at h
  | n + 1, t, k, x, h, k' => by
    rw [Nat.pow_succ] at h
    by_cases h0 : k = 0
    · subst h0
      show (getB (n + 1) k').f (topB.f x t) = _
      by_cases e : k' = 0
      · subst e; rw [getB_zero, root_top, if_pos rfl]
      · rw [getB_pos n e, getB_pos n e, ch_top t x (Nat.mod_lt _ (by decide)), if_neg e]
    · rw [putB_pos n h0]
      by_cases e : k' = 0
      · subst e; rw [getB_zero, root_set t _ (Nat.mod_lt _ (by decide)), if_neg (Ne.symm h0)]
      · rw [getB_pos n e, getB_pos n e]
        by_cases e1 : (k' - 1) % 16 = (k - 1) % 16
        · rw [e1, ch_set t _ (Nat.mod_lt _ (by decide)), get_put_n n _ _ x (by omega)]
          by_cases e2 : k' = k
          · subst e2; rw [if_pos rfl, if_pos rfl]
          · rw [if_neg e2, if_neg (by omega)]
        · rw [ch_set_ne t _ (Nat.mod_lt _ (by decide)) (Nat.mod_lt _ (by decide)) e1, if_neg (fun q => e1 (by rw [q]))]
theorem ch_nil (d : Nat) : (chB d).f (Tr.nil : Tr α) = .nil := by unfold chB; split <;> rfl
theorem getB_nil : ∀ (n k : Nat), (getB n k).f (Tr.nil : Tr α) = none
  | 0, k => rfl
  | n + 1, k => by
    by_cases e : k = 0
    · subst e; rfl
    · rw [getB_pos n e, ch_nil]; exact getB_nil n _
theorem get_nil (k : Nat) : (Tr.nil : Tr α).get k = none := getB_nil 44 k
theorem get_set {t t' : Tr α} {k : Nat} {x : α} (h : t.set k x = some t') (k' : Nat) : t'.get k' = if k' = k then some x else t.get k' := by
  unfold set at h
  cases hk : Nat.blt k 1099511627776 with
  | false => rw [hk] at h; cases h
  | true =>
    rw [hk, cond_true] at h
    rw [← Option.some.inj h]
    exact get_put_n 44 t k x (by have := Nat.le_of_ble_eq_true hk; omega) k'
theorem get_set_same {t t' : Tr α} {k : Nat} {x : α} (h : t.set k x = some t') : t'.get k = some x := by rw [get_set h, if_pos rfl]
theorem get_set_ne {t t' : Tr α} {k k' : Nat} {x : α} (h : t.set k x = some t') (hne : k' ≠ k) : t'.get k' = t.get k' := by rw [get_set h, if_neg hne]
end Tr

/-- two lists, place by place -/
inductive All2 {α β : Type} (R : α → β → Prop) : List α → List β → Prop where
  | nil : All2 R [] []
  | cons {a : α} {b : β} {l : List α} {m : List β} (h : R a b) (t : All2 R l m) : All2 R (a :: l) (b :: m)
namespace All2
variable {α β : Type} {R S : α → β → Prop}
theorem length {l : List α} {m : List β} (h : All2 R l m) : l.length = m.length := by
  induction h with
  | nil => rfl
  | cons _ _ ih => simp [ih]
theorem imp (k : ∀ a b, R a b → S a b) {l : List α} {m : List β} (h : All2 R l m) : All2 S l m := by
  induction h with
  | nil => exact .nil
  | cons h _ ih => exact .cons (k _ _ h) ih
theorem append {l l' : List α} {m m' : List β} (h : All2 R l m) (h' : All2 R l' m') : All2 R (l ++ l') (m ++ m') := by
  induction h with
  | nil => exact h'
  | cons h _ ih => exact .cons h ih
theorem get {l : List α} {m : List β} (h : All2 R l m) : ∀ (i : Nat) (a : α), l[i]? = some a → ∃ b, m[i]? = some b ∧ R a b := by
  induction h with
  | nil => intro i a e; simp at e
  | cons h _ ih =>
    intro i a e
    cases i with
    | zero => simp at e; subst e; exact ⟨_, rfl, h⟩
    | succ i => simp at e; obtain ⟨b, h1, h2⟩ := ih i a e; exact ⟨b, by simpa using h1, h2⟩
theorem take {l : List α} {m : List β} (h : All2 R l m) : ∀ n, All2 R (l.take n) (m.take n) := by
  induction h with
  | nil => intro n; simp; exact .nil
  | cons h _ ih => intro n; cases n with
    | zero => exact .nil
    | succ n => exact .cons h (ih n)
theorem drop {l : List α} {m : List β} (h : All2 R l m) : ∀ n, All2 R (l.drop n) (m.drop n) := by
  induction h with
  | nil => intro n; simp; exact .nil
  | cons h t ih => intro n; cases n with
    | zero => exact .cons h t
    | succ n => exact ih n
theorem map {γ : Type} {f : γ → α} {g : γ → β} (k : ∀ c, R (f c) (g c)) : ∀ l : List γ, All2 R (l.map f) (l.map g)
  | [] => .nil
  | c :: l => .cons (k c) (map k l)
end All2

/-- where a generation of a block lies: the model's block, the offset there of the first place, that place, the end -/
structure CL where
  cb : Nat
  co : Nat
  ao : Nat
  e : Nat
abbrev Emb := Nat → Nat → Option CL
def LR (φ : Emb) (a : Loc) (ad : Addr) : Prop :=
  ∃ c, φ a.b a.g = some c ∧ a.e = c.e ∧ c.ao ≤ a.i ∧ ad = ⟨c.cb, c.co + (a.i - c.ao), none⟩
/-- no cell of a row is frozen -/
def FzOk (fz : Nat × Nat) (n : Nat) : Prop := fz.1 ≤ fz.2 ∧ ∀ o, o < n → ¬ (fz.1 ≤ o ∧ o < fz.2)
/-- .. and no mark of a string's bytes stands behind it, where its generations are even -/
def FzG (g : Nat) (fz : Nat × Nat) (n : Nat) : Prop := FzOk fz n ∧ (g % 2 = 0 → fz = (0, 0))
/-- a row of the model that has so many cells, which may be written -/
def RowAt (w : World) (cb n : Nat) : Prop := ∃ arr t fz, w.heap[cb]? = some (.cells arr t fz) ∧ n ≤ arr.size ∧ FzOk fz arr.size
inductive VR (φ : Emb) (w : World) : AV → Value → Prop where
  | u : VR φ w .u undef
  | bool (b : Bool) : VR φ w (.bool b) (.bool b)
  | int (k : IntKind) (n : Int) : VR φ w (.int k n) (.int k n)
  | str (l : List UInt8) : VR φ w (.str l) (.string ⟨⟨l⟩⟩)
  | nilPtr : VR φ w (.ptr none) (.pointer none)
  | ptr (a : Loc) (ad : Addr) (h : LR φ a ad) : VR φ w (.ptr (some a)) (.pointer (some ad))
  | nilSlice : VR φ w (.slice none 0 0 0) (.slice none 0 0)
  | slice (a : Loc) (ad : Addr) (n r sz cap : Nat) (hn : n ≤ r) (hr : r ≤ cap) (hz : 0 < sz) (he : a.i + r * sz ≤ a.e) (h : cap = 0 ∨ (LR φ a ad ∧ RowAt w ad.block (ad.off + cap * sz))) : VR φ w (.slice (some a) n r sz) (.slice (some ad) n cap)
  | nilMap : VR φ w (.map none) (.map none)
  | map (r : Nat) (c : CL) (h : φ r 0 = some c) : VR φ w (.map (some r)) (.map (some c.cb))
  | nilf : VR φ w .nilf .nilFunc
  | nilI : VR φ w .nilI .nilIface
  | func (f : Nat) (cs : List AV) (vs : List Value) (h : All2 (VR φ w) cs vs) : VR φ w (.func f cs) (.func (.func f) #[] ⟨vs⟩)
  | agg (cs : List AV) (vs : List Value) (h : All2 (VR φ w) cs vs) : VR φ w (.agg cs) (.agg ⟨vs⟩)
  | tup (cs : List AV) (vs : List Value) (h : All2 (VR φ w) cs vs) : VR φ w (.tup cs) (.tuple ⟨vs⟩)
  | vec (l : List AV) (x : AV) (v : Value) (h : l[Lane.l l.length]? = some x) (hs : lane1 x = true) (k : VR φ w x v) : VR φ w (.vec l) v
  | arg (i : Nat) : VR φ w (.arg i) (.int .i64 (Lane.arg i))
  | yld (b : Nat) (c : CL) (h : φ b 0 = some c) : VR φ w (.yld b) (.func (.yield c.cb) #[] #[])
  | big (i lo : Nat) (h : (lo : Int) ≤ Lane.arg i) : VR φ w (.big i lo) (.int .i64 (Lane.arg i))
  | lslice (a : Loc) (ad : Addr) (n i : Nat) (ex : Bool) (len cap : Nat) (hl : ex = false → Lane.arg i = (len : Int) ∧ n ≤ len) (hx : ex = true → len = n) (h : n = 0 ∨ LR φ a ad) (hs : Lane.sl = .slice (some ad) len cap) : VR φ w (.lslice a n i ex) (.slice (some ad) len cap)

theorem All2.impM {α β : Type} {R S : α → β → Prop} {l : List α} {m : List β} (h : All2 R l m) (k : ∀ a b, R a b → S a b) : All2 S l m := h.imp k

/-- more places are known, rows stay as long as they are -/
def Ext (φ φ' : Emb) : Prop := ∀ b g c, φ b g = some c → φ' b g = some c
def Rows (w w' : World) : Prop := ∀ cb n, RowAt w cb n → RowAt w' cb n
theorem Ext.refl (φ : Emb) : Ext φ φ := fun _ _ _ h => h
theorem Ext.trans {φ φ' φ'' : Emb} (h : Ext φ φ') (k : Ext φ' φ'') : Ext φ φ'' := fun b g c e => k b g c (h b g c e)
theorem Rows.refl (w : World) : Rows w w := fun _ _ h => h
theorem Rows.trans {w w' w'' : World} (h : Rows w w') (k : Rows w' w'') : Rows w w'' := fun c n e => k c n (h c n e)
theorem LR.mono {φ φ' : Emb} (h : Ext φ φ') {a : Loc} {ad : Addr} (k : LR φ a ad) : LR φ' a ad := by
  obtain ⟨c, h1, h2⟩ := k; exact ⟨c, h _ _ _ h1, h2⟩
theorem VR.mono {φ φ' : Emb} {w w' : World} (h : Ext φ φ') (hr : Rows w w') {x : AV} {v : Value} (k : VR φ w x v) : VR φ' w' x v := by
  have key : ∀ (n : Nat) (x : AV) (v : Value), SizeOf.sizeOf x ≤ n → VR φ w x v → VR φ' w' x v := by
    intro n
    induction n with
    | zero => intro x v hs; cases x <;> simp at hs
    | succ n ih =>
      intro x v hs k
      have all : ∀ (cs : List AV) (vs : List Value), SizeOf.sizeOf cs ≤ n → All2 (VR φ w) cs vs → All2 (VR φ' w') cs vs := by
        intro cs vs hc ha
        induction ha with
        | nil => exact .nil
        | cons hx ht iht =>
          simp at hc
          exact .cons (ih _ _ (by omega) hx) (iht (by omega))
      cases k with
      | u => exact .u
      | bool b => exact .bool b
      | int k n => exact .int k n
      | str l => exact .str l
      | nilPtr => exact .nilPtr
      | ptr a ad hl => exact .ptr a ad (hl.mono h)
      | nilSlice => exact .nilSlice
      | slice a ad n r sz cap hn hr' hz he hh => exact .slice a ad n r sz cap hn hr' hz he (hh.imp id fun ⟨x, y⟩ => ⟨x.mono h, hr _ _ y⟩)
      | nilMap => exact .nilMap
      | map r c hc => exact .map r c (h _ _ _ hc)
      | nilf => exact .nilf
      | nilI => exact .nilI
      | func f cs vs ha => exact .func f cs vs (all cs vs (by simp at hs; omega) ha)
      | agg cs vs ha => exact .agg cs vs (all cs vs (by simp at hs; omega) ha)
      | tup cs vs ha => exact .tup cs vs (all cs vs (by simp at hs; omega) ha)
      | vec l x v hx h1 k1 => exact .vec l x v hx h1 (ih _ _ (by have := List.sizeOf_lt_of_mem (List.mem_of_getElem? hx); simp at hs; omega) k1)
      | arg i => exact .arg i
      | yld b c hc => exact .yld b c (h _ _ _ hc)
      | big i lo hb => exact .big i lo hb
      | lslice a ad n i ex len cap hl hx h1 hsl => exact .lslice a ad n i ex len cap hl hx (h1.imp id fun q => q.mono h) hsl
  exact key _ x v (Nat.le_refl _) k
theorem All2.mono {φ φ' : Emb} {w w' : World} (h : Ext φ φ') (hr : Rows w w') {cs : List AV} {vs : List Value} (k : All2 (VR φ w) cs vs) : All2 (VR φ' w') cs vs := k.imp fun _ _ => VR.mono h hr

/-- an entry of a map -/
structure EntR (φ : Emb) (w : World) (e : AV × AV) (m : MapEntry) : Prop where
  key : VR φ w e.1 m.key
  val : VR φ w e.2 m.val
/-- an object that is no row -/
inductive ObjR (φ : Emb) (w : World) : AObj → Obj → Prop where
  | iter (s : List UInt8) (pos : Nat) : ObjR φ w (.iter s pos) (.stringIter ⟨⟨s⟩⟩ pos)
  | viter (ss : List AV) (s : List UInt8) (pos : Nat) (h : ss[Lane.l ss.length]? = some (.str s)) : ObjR φ w (.viter ss pos) (.stringIter ⟨⟨s⟩⟩ pos)
  | map (es : List (AV × AV)) (ms : Array MapEntry) (h : All2 (EntR φ w) es ms.toList) (hb : ∀ (i : Nat) (m : MapEntry), ms[i]? = some m → m.born = i) : ObjR φ w (.map es) (.map ms ms.size)
  | mapit (m n : Nat) (c : CL) (seen : Array Nat) (cur : Option Nat) (h : φ m 0 = some c) (hs : ∀ s ∈ seen.toList, s < n) (hd : seen.toList.Nodup) (hc : ∀ j, cur = some j → seen.back? = some j) :
    ObjR φ w (.mapit m n cur) (.mapIter (some c.cb) n seen n)
  | miter (m n : Nat) (c : CL) (seen : Bool) (h : φ m 0 = some c) (hn : n ≤ 1) : ObjR φ w (.miter m n seen) (.mapIter (some c.cb) n (if seen then #[0] else #[]) n)
theorem ObjR.mono {φ φ' : Emb} {w w' : World} (h : Ext φ φ') (hr : Rows w w') {x : AObj} {o : Obj} (k : ObjR φ w x o) : ObjR φ' w' x o := by
  cases k with
  | iter s pos => exact .iter s pos
  | viter ss s pos q => exact .viter ss s pos q
  | miter m n c seen hm hn => exact .miter m n c seen (h _ _ _ hm) hn
  | mapit m n c seen cur hm hs hd hc => exact .mapit m n c seen cur (h _ _ _ hm) hs hd hc
  | map es ms hk hb => exact .map es ms (hk.imp fun _ _ q => ⟨q.key.mono h hr, q.val.mono h hr⟩) hb
theorem ObjR.notCells {φ : Emb} {w : World} {x : AObj} {arr : Array Value} {t : TypeId} {fz : Nat × Nat} (k : ObjR φ w x (.cells arr t fz)) : False := by cases k
def isCells : AObj → Bool
  | .cells _ _ _ => true
  | _ => false
/-- what the machine's memory says of a world; blocks below 'base' are written by nobody -/
structure HR (base : Nat) (φ : Emb) (h : Heap) (w : World) : Prop where
  fresh : ∀ b, h.next ≤ b → h.objs.get b = none ∧ ∀ g, φ b g = none
  low : base ≤ w.heap.size
  range : ∀ b g c, φ b g = some c → c.cb < w.heap.size
  inj : ∀ b g c b' g' c', φ b g = some c → φ b' g' = some c' → c.cb = c'.cb → b = b' ∧ c.co = c'.co ∧ c.ao = c'.ao
  los : ∀ b ro gen cs, h.objs.get b = some (.cells ro gen cs) → ∀ i lo v, cs.get i = some (lo, v) → lo ≤ gen
  cells : ∀ b ro gen cs g c, h.objs.get b = some (.cells ro gen cs) → φ b g = some c → (g ≤ gen ∧ g % 2 = gen % 2) ∧ (ro = false → base ≤ c.cb) ∧
    (∀ i lo v, cs.get i = some (lo, v) → lo ≤ gen) ∧
    ∃ arr t fz, w.heap[c.cb]? = some (.cells arr t fz) ∧ (ro = false → FzG g fz arr.size) ∧
      ∀ i lo v, cs.get i = some (lo, v) → lo ≤ g → c.ao ≤ i → i < c.e → ∃ u, arr[c.co + (i - c.ao)]? = some u ∧ VR φ w v u ∧ oneCell v = true
  other : ∀ b x g c, h.objs.get b = some x → isCells x = false → φ b g = some c → base ≤ c.cb ∧ (c.co = 0 ∧ g = 0) ∧ ∃ o, w.heap[c.cb]? = some o ∧ ObjR φ w x o
/-- may an object be written? -/
def wr : Option AObj → Bool
  | some (.cells true _ _) => false
  | some _ => true
  | none => false
theorem wr_other {x : AObj} (h : isCells x = false) : wr (some x) = true := by cases x <;> first | rfl | cases h
theorem wr_some {x : Option AObj} (e : wr x = true) : x.isSome = true := by
  cases x with
  | none => cases e
  | some x => rfl
/-- what else may have turned in a world: nothing but rows that the memory knows of -/
structure Kept (φ : Emb) (h : Heap) (w w' : World) : Prop where
  os : w'.os = w.os
  tape : w'.tape = w.tape
  output : w'.output = w.output
  size : w.heap.size ≤ w'.heap.size
  block : ∀ cb, cb < w.heap.size → (∀ b g c, φ b g = some c → wr (h.objs.get b) = true → c.cb ≠ cb) → w'.heap[cb]? = w.heap[cb]?
theorem HR.iter {base : Nat} {φ : Emb} {h : Heap} {w : World} (H : HR base φ h w) (b : Nat) (s : List UInt8) (pos g : Nat) (c : CL) (e1 : h.objs.get b = some (.iter s pos)) (e2 : φ b g = some c) :
    base ≤ c.cb ∧ (c.co = 0 ∧ g = 0) ∧ w.heap[c.cb]? = some (.stringIter ⟨⟨s⟩⟩ pos) := by
  obtain ⟨q1, q2, o, q3, q4⟩ := H.other b _ g c e1 rfl e2
  cases q4
  exact ⟨q1, q2, q3⟩
/-! runs that go alike -/
theorem same0_eq {x y : AV} (e : same0 x y = true) : x = y := by
  cases x <;> cases y <;> simp_all [same0]
theorem same0L_eq : ∀ {l m : List AV}, same0L l m = true → l = m
  | [], [], _ => rfl
  | [], _ :: _, e => by simp [same0L] at e
  | _ :: _, [], e => by simp [same0L] at e
  | x :: l, y :: m, e => by
    simp only [same0L, Bool.and_eq_true] at e
    rw [same0_eq e.1, same0L_eq e.2]
theorem same1_eq {x y : AV} (e : same1 x y = true) : x = y := by
  cases x <;> cases y <;> first | (simp only [same1] at e; rw [same0L_eq e]; done) | (simp only [same1] at e; rw [Nat.eq_of_beq_eq_true e]; done) | simp_all [same1]
theorem sameL_eq : ∀ {l m : List AV}, sameL l m = true → l = m
  | [], [], _ => rfl
  | [], _ :: _, e => by simp [sameL] at e
  | _ :: _, [], e => by simp [sameL] at e
  | x :: l, y :: m, e => by
    simp only [sameL, Bool.and_eq_true] at e
    rw [same1_eq e.1, sameL_eq e.2]
theorem sameV_eq {x y : AV} (e : sameV x y = true) : x = y := by
  unfold sameV at e
  split at e
  · split at e
    · rw [sameL_eq e]
    · cases e
  · split at e
    · rw [sameL_eq e]
    · cases e
  · exact same1_eq e
theorem mapO_at {α β : Type} {f : α → Option β} : ∀ {l : List α} {r : List β}, mapO f l = some r → ∀ (i : Nat) (x : α), l[i]? = some x → ∃ y, r[i]? = some y ∧ f x = some y
  | [], r, e, i, x, hx => by simp at hx
  | a :: l, r, e, i, x, hx => by
    simp only [mapO, Option.bind_eq_some_iff, Option.some.injEq] at e
    obtain ⟨y, hy, r', hr, rfl⟩ := e
    cases i with
    | zero => simp at hx; subst hx; exact ⟨y, rfl, hy⟩
    | succ i => simp at hx; obtain ⟨z, h1, h2⟩ := mapO_at hr i x hx; exact ⟨z, by simpa using h1, h2⟩
theorem mapO_length {α β : Type} {f : α → Option β} : ∀ {l : List α} {r : List β}, mapO f l = some r → r.length = l.length
  | [], r, e => by cases e; rfl
  | a :: l, r, e => by
    simp only [mapO, Option.bind_eq_some_iff, Option.some.injEq] at e
    obtain ⟨y, hy, r', hr, rfl⟩ := e
    simp [mapO_length hr]
theorem firstD_some {β : Type} {f : Nat → Option β} {x : β} : ∀ {l : List Nat}, firstD f l = some x → ∃ n, n ∈ l ∧ f n = some x
  | [], e => by cases e
  | n :: r, e => by
    unfold firstD at e
    split at e
    · rename_i y hy; cases e; exact ⟨n, by simp, hy⟩
    · obtain ⟨m, h1, h2⟩ := firstD_some e; exact ⟨m, by simp [h1], h2⟩
theorem collapse_ok {φ : Emb} {w : World} {rs : List AV} {v r0 : AV} {u : Value} (e : collapse rs = some v) (h : rs[Lane.l rs.length]? = some r0) (k : VR φ w r0 u) : VR φ w v u := by
  cases rs with
  | nil => cases e
  | cons x r =>
    unfold collapse at e
    dsimp only at e
    cases ha : r.all (sameV x) with
    | true =>
      rw [ha, cond_true] at e
      rw [← Option.some.inj e]
      have hx : x = r0 := by
        cases hl : Lane.l (x :: r).length with
        | zero => rw [hl] at h; simpa using h
        | succ i => rw [hl] at h; simp at h; exact sameV_eq (List.all_eq_true.1 ha _ (List.mem_of_getElem? h))
      rw [hx]; exact k
    | false =>
      rw [ha, cond_false] at e
      cases hb : (x :: r).all lane1 with
      | false => rw [hb] at e; cases e
      | true =>
        rw [hb, cond_true] at e
        cases e
        exact .vec _ r0 u h (List.all_eq_true.1 hb _ (List.mem_of_getElem? h)) k
theorem lenA_vec {ls : List AV} {n : Nat} (e : lenA (.vec ls) = some n) : ∀ x ∈ ls, ∃ s, x = .str s ∧ s.length = n := by
  unfold lenA at e
  split at e
  case h_4 => cases e
  case h_1 q => cases q
  case h_2 q => cases q
  rename_i l r q
  cases q
  by_cases ha : r.all (strLen l.length) = true
  · rw [if_pos ha] at e
    cases e
    intro x hx
    rcases List.mem_cons.1 hx with rfl | hx
    · exact ⟨l, rfl, rfl⟩
    · have := List.all_eq_true.1 ha x hx
      unfold strLen at this
      split at this
      · exact ⟨_, rfl, Nat.eq_of_beq_eq_true this⟩
      · cases this
  · rw [if_neg ha] at e; cases e
theorem VR.vec_str {φ : Emb} {w : World} {ls : List AV} {n : Nat} {u : Value} (e : lenA (.vec ls) = some n) (k : VR φ w (.vec ls) u) : ∃ s, ls[Lane.l ls.length]? = some (.str s) ∧ s.length = n ∧ u = .string ⟨⟨s⟩⟩ := by
  cases k with
  | vec _ x _ hl hs k =>
  obtain ⟨s, rfl, hn⟩ := lenA_vec e x (List.mem_of_getElem? hl)
  cases k
  exact ⟨s, hl, hn, rfl⟩
theorem transB_ok {φ : Emb} {w : World} : ∀ {n : Nat} {ls : List AV} {vs : List AV} {s : List UInt8}, transB n ls = some vs → ls[Lane.l ls.length]? = some (.str s) → All2 (VR φ w) vs ((s.take n).map fun b => Value.int .u8 b.toNat)
  | 0, ls, vs, s, e, h => by
    simp only [transB, Option.some.injEq] at e
    subst e
    exact .nil
  | n + 1, ls, vs, s, e, h => by
    simp only [transB, Option.bind_eq_some_iff, Option.map_eq_some_iff] at e
    obtain ⟨cs, hcs, c, hc, r, hr, rfl⟩ := e
    obtain ⟨y, h1, h2⟩ := mapO_at hcs _ _ h
    cases s with
    | nil => cases h2
    | cons b s =>
      cases h2
      have h3 : (ls.map tailS)[Lane.l (ls.map tailS).length]? = some (.str s) := by rw [List.length_map, List.getElem?_map, h]; rfl
      exact .cons (collapse_ok hc (by rw [mapO_length hcs]; exact h1) (.int _ _)) (transB_ok hr h3)
theorem transB_length : ∀ {n : Nat} {ls : List AV} {vs : List AV}, transB n ls = some vs → vs.length = n
  | 0, ls, vs, e => by
    simp only [transB, Option.some.injEq] at e
    subst e; rfl
  | n + 1, ls, vs, e => by
    simp only [transB, Option.bind_eq_some_iff, Option.map_eq_some_iff] at e
    obtain ⟨cs, hcs, c, hc, r, hr, rfl⟩ := e
    simp [transB_length hr]
theorem widthV_ok {pos d : Nat} {ss : List AV} (e : widthV pos ss = some d) : ∀ x ∈ ss, ∃ s, x = .str s ∧ (decodeA s pos).2 = d := by
  unfold widthV at e
  split at e
  case h_2 => cases e
  rename_i l r
  by_cases ha : r.all (widthIs pos (decodeA l pos).2) = true
  · rw [if_pos ha] at e
    cases e
    intro x hx
    rcases List.mem_cons.1 hx with rfl | hx
    · exact ⟨l, rfl, rfl⟩
    · have := List.all_eq_true.1 ha x hx
      unfold widthIs at this
      split at this
      · exact ⟨_, rfl, Nat.eq_of_beq_eq_true this⟩
      · cases this
  · rw [if_neg ha] at e; cases e
theorem VR.lane {φ : Emb} {w : World} {x : AV} {v : Value} (k : VR φ w x v) (n : Nat) : VR φ w (atL n (Lane.l n) x) v := by
  have k0 := k
  cases k with
  | vec l x _ hl hs k =>
    show VR φ w (bif Nat.beq l.length n then l.getD (Lane.l n) .any else .vec l) v
    cases q : Nat.beq l.length n with
    | false => exact k0
    | true =>
      have q' := Nat.eq_of_beq_eq_true q
      subst q'
      rw [cond_true, List.getD_eq_getElem?_getD, hl]
      exact k
  | _ => exact k0
theorem oneCell_lane {φ : Emb} {w : World} {x : AV} {v : Value} (k : VR φ w x v) (n : Nat) (ho : oneCell x = true) : oneCell (atL n (Lane.l n) x) = true := by
  cases k with
  | vec l x _ hl hs k =>
    show oneCell (bif Nat.beq l.length n then l.getD (Lane.l n) .any else .vec l) = true
    cases q : Nat.beq l.length n with
    | false => exact ho
    | true =>
    have q' := Nat.eq_of_beq_eq_true q
    subst q'
    rw [cond_true, List.getD_eq_getElem?_getD, hl]
    cases x <;> first | rfl | (simp [lane1] at hs; done)
  | _ => exact ho
theorem All2.lane {φ : Emb} {w : World} {xs : List AV} {vs : List Value} (k : All2 (VR φ w) xs vs) (n : Nat) : All2 (VR φ w) (xs.map (atL n (Lane.l n))) vs := by
  induction k with
  | nil => exact .nil
  | cons h _ ih => exact .cons (h.lane n) ih
theorem VR.laneV {φ : Emb} {w : World} {x : AV} {v : Value} (k : VR φ w x v) (n : Nat) : VR φ w (atV n (Lane.l n) x) v := by
  have k0 := k.lane n
  cases k with
  | agg cs vs hcs => exact .agg _ _ (hcs.lane n)
  | tup cs vs hcs => exact .tup _ _ (hcs.lane n)
  | func f cs vs hcs => exact .func _ _ _ (hcs.lane n)
  | _ => exact k0
theorem All2.laneV {φ : Emb} {w : World} {xs : List AV} {vs : List Value} (k : All2 (VR φ w) xs vs) (n : Nat) : All2 (VR φ w) (xs.map (atV n (Lane.l n))) vs := by
  induction k with
  | nil => exact .nil
  | cons h _ ih => exact .cons (h.laneV n) ih
theorem range_at {n i : Nat} (h : i < n) : (List.range n)[i]? = some i := by simp [h]
theorem allSame_at {l : List Bool} {b c : Bool} {i : Nat} (e : allSame l = some b) (h : l[i]? = some c) : c = b := by
  cases l with
  | nil => cases e
  | cons x r =>
    unfold allSame at e
    cases ha : r.all (· == x) with
    | false => simp only [ha] at e; cases e
    | true =>
      simp only [ha, cond_true, Option.some.injEq] at e
      subst e
      cases i with
      | zero => simpa using h.symm
      | succ i =>
        simp at h
        simpa using List.all_eq_true.1 ha _ (List.mem_of_getElem? h)
end Go.Vai
/- The abstract machine: loads, stores and new rows do in the model what they do in its memory. -/
namespace Go.Vai
set_option linter.unusedVariables false
set_option linter.unusedSimpArgs false
set_option linter.unusedSectionVars false
variable [Lane]
variable {P : Program} {base : Nat} {φ : Emb} {h h' : Heap} {w w' : World}

theorem add_plain (b o j : Nat) : (⟨b, o, none⟩ : Addr).add j = ⟨b, o + j, none⟩ := by
  unfold Addr.add
  by_cases e : j = 0
  · subst e; rfl
  · rw [if_neg e]
theorem LR.form {a : Loc} {ad : Addr} (k : LR φ a ad) : ad = ⟨ad.block, ad.off, none⟩ := by
  obtain ⟨c, _, _, _, rfl⟩ := k; rfl
theorem add_zero (ad : Addr) : ad.add 0 = ad := rfl
theorem loadC_cell (H : HR base φ h w) {a : Loc} {ad : Addr} (k : LR φ a ad) {j : Nat} {v : AV} (hl : loadC h a j = some v) :
    ∃ u, w.cell? (ad.add j) = some u ∧ VR φ w v u ∧ oneCell v = true := by
  unfold loadC at hl
  split at hl
  · rename_i ro gen cs hg
    split at hl
    · rename_i hlt
      split at hl
      · rename_i lo v' hc
        split at hl
        · rename_i hle
          cases hl
          obtain ⟨c, h1, h2, h3, rfl⟩ := k
          obtain ⟨_, _, _, arr, t, fz, ha, _, hk⟩ := H.cells _ _ _ _ _ _ hg h1
          obtain ⟨u, hu, hv, ho⟩ := hk _ _ _ hc hle (by omega) (by omega)
          refine ⟨u, ?_, hv, ho⟩
          rw [add_plain]
          simp only [World.cell?, ha, Option.isSome_none, Bool.false_eq_true, if_false]
          rw [← hu]; congr 1; omega
        · cases hl
      · cases hl
    · cases hl
  · cases hl
theorem loadN_cells (H : HR base φ h w) {a : Loc} {ad : Addr} (k : LR φ a ad) : ∀ (n j : Nat) (vs : List AV) (acc : Array Value), loadN h a j n = some vs →
    ∃ us : List Value, (loadCellsFrom ad j n acc).run P w = .ok (acc ++ us.toArray) w ∧ All2 (VR φ w) vs us ∧ (∀ v ∈ vs, oneCell v = true)
  | 0, j, vs, acc, hl => by
    simp only [loadN, Option.some.injEq] at hl
    subst hl
    exact ⟨[], by simp [loadCellsFrom], .nil, by simp⟩
  | n + 1, j, vs, acc, hl => by
    simp only [loadN, Option.bind_eq_some_iff, Option.some.injEq] at hl
    obtain ⟨v, hv, r, hr, rfl⟩ := hl
    obtain ⟨u, hu, hvr, ho⟩ := loadC_cell H k hv
    obtain ⟨us, h1, h2, h3⟩ := loadN_cells H k n (j + 1) r (acc.push u) hr
    refine ⟨u :: us, ?_, .cons hvr h2, by simpa [ho] using h3⟩
    simp only [loadCellsFrom, Sem.run_bind, load, Sem.run, hu, Result.andThen]
    rw [h1]; simp

/-- memory that turns one cell: what the world's cell then is -/
theorem storeC_cell (H : HR base φ h w) {a : Loc} {ad : Addr} (k : LR φ a ad) {j : Nat} {v : AV} {u : Value} (hv : VR φ w v u) (hs : storeC h a j v = some h') :
    w.cell? (ad.add j) ≠ none ∧ w.frozen? (ad.add j) = false ∧ oneCell v = true ∧ HR base φ h' (w.setCell (ad.add j) u) ∧ Kept φ h w (w.setCell (ad.add j) u) ∧ Rows w (w.setCell (ad.add j) u) ∧
    h'.next = h.next ∧ (∀ b, wr (h'.objs.get b) = wr (h.objs.get b)) ∧
    (∀ b m n cur g c, h.objs.get b = some (.mapit m n cur) → φ b g = some c → (w.setCell (ad.add j) u).heap[c.cb]? = w.heap[c.cb]? ∧ h'.objs.get b = h.objs.get b) := by
  unfold storeC at hs
  split at hs
  case h_2 => cases hs
  rename_i gen cs hg
  split at hs
  case isFalse => cases hs
  rename_i hc0
  obtain ⟨hgen, hlt, hone⟩ := hc0
  split at hs
  case h_2 => cases hs
  rename_i old hold
  simp only [Option.bind_eq_some_iff, Option.some.injEq] at hs
  obtain ⟨cs', hcs, o, ho, rfl⟩ := hs
  obtain ⟨c, h1, h2, h3, rfl⟩ := k
  obtain ⟨hg1, hb, hlo, arr, t, fz, ha, hfz, hk⟩ := H.cells _ _ _ _ _ _ hg h1
  obtain ⟨lo0, v0⟩ := old
  obtain ⟨u0, hu0, _, _⟩ := hk _ _ _ hold (by have := hlo _ _ _ hold; omega) (by omega) (by omega)
  have eoff : c.co + (a.i - c.ao) + j = c.co + (a.i + j - c.ao) := by omega
  have hin : c.co + (a.i - c.ao) + j < arr.size := by
    rw [eoff]
    rcases Nat.lt_or_ge (c.co + (a.i + j - c.ao)) arr.size with q | q
    · exact q
    · rw [Array.getElem?_eq_none q] at hu0; cases hu0
  have hset : (w.setCell ⟨c.cb, c.co + (a.i - c.ao) + j, none⟩ u).heap = w.heap.modify c.cb fun
      | .cells c' elem frozen => .cells (c'.setIfInBounds (c.co + (a.i - c.ao) + j) u) elem frozen
      | o => o := rfl
  have hcbs : c.cb < w.heap.size := H.range _ _ _ h1
  have hat : (w.setCell ⟨c.cb, c.co + (a.i - c.ao) + j, none⟩ u).heap[c.cb]? = some (.cells (arr.setIfInBounds (c.co + (a.i - c.ao) + j) u) t fz) := by
    rw [hset, Array.getElem?_modify, if_pos rfl, ha]; rfl
  have hne : ∀ cb, cb ≠ c.cb → (w.setCell ⟨c.cb, c.co + (a.i - c.ao) + j, none⟩ u).heap[cb]? = w.heap[cb]? := by
    intro cb hcb
    rw [hset, Array.getElem?_modify, if_neg (fun e => hcb e.symm)]
  have hsize : (w.setCell ⟨c.cb, c.co + (a.i - c.ao) + j, none⟩ u).heap.size = w.heap.size := by rw [hset, Array.size_modify]
  have hrows : Rows w (w.setCell ⟨c.cb, c.co + (a.i - c.ao) + j, none⟩ u) := by
    rintro cb n ⟨arr', t', fz', q1, q2, q3⟩
    by_cases e : cb = c.cb
    · subst e
      rw [ha] at q1; cases q1
      exact ⟨_, _, _, hat, by simpa using q2, by simpa using q3⟩
    · exact ⟨_, _, _, (hne cb e).trans q1, q2, q3⟩
  rw [add_plain]
  refine ⟨?_, ?_, hone, ?_, ?_, hrows, rfl, ?_, ?_⟩
  · simp only [World.cell?, ha, Option.isSome_none, Bool.false_eq_true, if_false]
    rw [eoff, hu0]; simp
  · simp only [World.frozen?, ha]
    have := (hfz rfl).1.2 _ hin
    rw [Bool.eq_false_iff]
    intro q
    simp only [Bool.and_eq_true, decide_eq_true_eq] at q
    exact this q
  · refine ⟨?_, by rw [hsize]; exact H.low, fun b g c e => by rw [hsize]; exact H.range _ _ _ e, H.inj, ?_, ?_, ?_⟩
    · intro b hb'
      obtain ⟨q1, q2⟩ := H.fresh b hb'
      refine ⟨?_, q2⟩
      show o.get b = none
      rw [Tr.get_set ho, if_neg, q1]
      rintro rfl; rw [q1] at hg; cases hg
    · intro b ro gen' cs2 e1 i lo v' hi
      have e1' : o.get b = some (.cells ro gen' cs2) := e1
      rw [Tr.get_set ho] at e1'
      by_cases eb : b = a.b
      · subst eb
        rw [if_pos rfl] at e1'
        cases e1'
        rw [Tr.get_set hcs] at hi
        by_cases ei : i = a.i + j
        · subst ei; rw [if_pos rfl] at hi; cases hi; exact Nat.le_refl _
        · rw [if_neg ei] at hi; exact H.los _ _ _ _ hg _ _ _ hi
      · rw [if_neg eb] at e1'; exact H.los _ _ _ _ e1' _ _ _ hi
    · intro b ro gen' cs2 g2 c2 e1 e2
      have e1' : o.get b = some (.cells ro gen' cs2) := e1
      rw [Tr.get_set ho] at e1'
      by_cases eb : b = a.b
      · subst eb
        rw [if_pos rfl] at e1'
        cases e1'
        obtain ⟨p1, p2, p3, arr2, t2, fz2, pa, pf, pk⟩ := H.cells _ _ _ _ _ _ hg e2
        refine ⟨p1, p2, ?_, ?_⟩
        · intro i lo v' hi
          rw [Tr.get_set hcs] at hi
          by_cases ei : i = a.i + j
          · subst ei; rw [if_pos rfl] at hi; cases hi; exact Nat.le_refl _
          · rw [if_neg ei] at hi; exact p3 _ _ _ hi
        · by_cases ecb : c2.cb = c.cb
          · obtain ⟨_, eco, eao⟩ := H.inj _ _ _ _ _ _ e2 h1 ecb
            rw [ecb, ha] at pa; cases pa
            refine ⟨_, _, _, by rw [ecb]; exact hat, by simpa using pf, ?_⟩
            intro i lo v' hi hle hao hie
            rw [Tr.get_set hcs] at hi
            by_cases ei : i = a.i + j
            · subst ei
              rw [if_pos rfl] at hi; cases hi
              refine ⟨u, ?_, hv.mono (Ext.refl _) hrows, hone⟩
              have : c2.co + (a.i + j - c2.ao) = c.co + (a.i - c.ao) + j := by omega
              rw [this, Array.getElem?_setIfInBounds_self, if_pos hin]
            · rw [if_neg ei] at hi
              obtain ⟨u', q1, q2, q3⟩ := pk _ _ _ hi hle hao hie
              refine ⟨u', ?_, q2.mono (Ext.refl _) hrows, q3⟩
              rw [Array.getElem?_setIfInBounds_ne (by omega)]; exact q1
          · refine ⟨_, _, _, (hne _ ecb).trans pa, pf, ?_⟩
            intro i lo v' hi hle hao hie
            rw [Tr.get_set hcs] at hi
            by_cases ei : i = a.i + j
            · subst ei
              rw [if_pos rfl] at hi; cases hi
              -- an elder generation in other memory: it does not know this place any more
              exfalso
              have hgg : g2 ≤ gen := p1.1
              have : g2 = a.g := by omega
              subst this
              rw [e2] at h1; cases h1; exact ecb rfl
            · rw [if_neg ei] at hi
              obtain ⟨u', q1, q2, q3⟩ := pk _ _ _ hi hle hao hie
              exact ⟨u', q1, q2.mono (Ext.refl _) hrows, q3⟩
      · rw [if_neg eb] at e1'
        obtain ⟨p1, p2, p3, arr2, t2, fz2, pa, pf, pk⟩ := H.cells _ _ _ _ _ _ e1' e2
        have ecb : c2.cb ≠ c.cb := fun e => eb (H.inj _ _ _ _ _ _ e2 h1 e).1
        refine ⟨p1, p2, p3, _, _, _, (hne _ ecb).trans pa, pf, ?_⟩
        intro i lo v' hi hle hao hie
        obtain ⟨u', q1, q2, q3⟩ := pk _ _ _ hi hle hao hie
        exact ⟨u', q1, q2.mono (Ext.refl _) hrows, q3⟩
    · intro b x g2 c2 e1 hx e2
      have e1' : o.get b = some x := e1
      rw [Tr.get_set ho] at e1'
      by_cases eb : b = a.b
      · subst eb; rw [if_pos rfl] at e1'; cases e1'; cases hx
      · rw [if_neg eb] at e1'
        obtain ⟨p1, p0, ob, p2, p3⟩ := H.other _ _ _ _ e1' hx e2
        have ecb : c2.cb ≠ c.cb := fun e => eb (H.inj _ _ _ _ _ _ e2 h1 e).1
        exact ⟨p1, p0, ob, (hne _ ecb).trans p2, p3.mono (Ext.refl _) hrows⟩
  · refine ⟨rfl, rfl, rfl, by rw [hsize]; exact Nat.le_refl _, ?_⟩
    intro cb hcb hk'
    exact hne cb fun e => hk' a.b a.g c h1 (by rw [hg]; rfl) e.symm
  · intro b
    show wr (o.get b) = _
    rw [Tr.get_set ho]
    by_cases eb : b = a.b
    · subst eb; rw [if_pos rfl, hg]; rfl
    · rw [if_neg eb]
  · intro b m n cur g2 c2 e1 e2
    have eb : b ≠ a.b := by rintro rfl; rw [hg] at e1; cases e1
    exact ⟨hne _ fun e => eb (H.inj _ _ _ _ _ _ e2 h1 e).1, by show o.get b = _; rw [Tr.get_set ho, if_neg eb]⟩
end Go.Vai
/- The abstract machine: steps of memory put together; new rows; rows that grow. -/
namespace Go.Vai
set_option linter.unusedVariables false
set_option linter.unusedSimpArgs false
set_option linter.unusedSectionVars false
variable [Lane]
variable {P : Program} {base : Nat} {φ φ' φ'' : Emb} {h h' h'' : Heap} {w w' w'' : World}

/-- one step of the machine's memory, and of the world -/
structure WStep (base : Nat) (φ : Emb) (h : Heap) (w : World) (φ' : Emb) (h' : Heap) (w' : World) : Prop where
  hr : HR base φ' h' w'
  ext : Ext φ φ'
  rows : Rows w w'
  kept : Kept φ h w w'
  newer : ∀ b g c, φ' b g = some c → c.cb < w.heap.size → ∃ g0 c0, φ b g0 = some c0 ∧ c0.cb = c.cb
  next : h.next ≤ h'.next
  known : ∀ b, b < h.next → wr (h'.objs.get b) = true → wr (h.objs.get b) = true
/-- a step that leaves iterators over maps as they are -/
structure Step (base : Nat) (φ : Emb) (h : Heap) (w : World) (φ' : Emb) (h' : Heap) (w' : World) : Prop extends WStep base φ h w φ' h' w' where
  its : ∀ b m n cur g c, h.objs.get b = some (.mapit m n cur) → φ b g = some c → w'.heap[c.cb]? = w.heap[c.cb]? ∧ h'.objs.get b = h.objs.get b
theorem HR.below (H : HR base φ h w) {b g : Nat} {c : CL} (e : φ b g = some c) : b < h.next := by
  rcases Nat.lt_or_ge b h.next with q | q
  · exact q
  · have := (H.fresh b q).2 g; rw [e] at this; cases this
theorem Kept.refl (φ : Emb) (h : Heap) (w : World) : Kept φ h w w := ⟨rfl, rfl, rfl, Nat.le_refl _, fun _ _ _ => rfl⟩
theorem Step.refl (H : HR base φ h w) : Step base φ h w φ h w :=
  ⟨⟨H, Ext.refl _, Rows.refl _, Kept.refl _ _ _, fun b g c e _ => ⟨g, c, e, rfl⟩, Nat.le_refl _, fun _ _ q => q⟩, fun _ _ _ _ _ _ _ _ => ⟨rfl, rfl⟩⟩
theorem WStep.trans (H : HR base φ h w) (s : WStep base φ h w φ' h' w') (t : WStep base φ' h' w' φ'' h'' w'') : WStep base φ h w φ'' h'' w'' := by
  refine ⟨t.hr, s.ext.trans t.ext, s.rows.trans t.rows, ⟨t.kept.os.trans s.kept.os, t.kept.tape.trans s.kept.tape, t.kept.output.trans s.kept.output, Nat.le_trans s.kept.size t.kept.size, ?_⟩, ?_, Nat.le_trans s.next t.next, ?_⟩
  · intro cb hcb hk
    rw [t.kept.block cb (Nat.lt_of_lt_of_le hcb s.kept.size) ?_, s.kept.block cb hcb hk]
    rintro b g c e1 e2 rfl
    obtain ⟨g0, c0, q1, q2⟩ := s.newer b g c e1 hcb
    exact hk b g0 c0 q1 (s.known b (H.below q1) e2) q2
  · intro b g c e hc
    obtain ⟨g0, c0, q1, q2⟩ := t.newer b g c e (Nat.lt_of_lt_of_le hc s.kept.size)
    obtain ⟨g1, c1, r1, r2⟩ := s.newer b g0 c0 q1 (by rw [q2]; exact hc)
    exact ⟨g1, c1, r1, r2.trans q2⟩
  · intro b hb q
    exact s.known b hb (t.known b (Nat.lt_of_lt_of_le hb s.next) q)
theorem Step.trans (H : HR base φ h w) (s : Step base φ h w φ' h' w') (t : Step base φ' h' w' φ'' h'' w'') : Step base φ h w φ'' h'' w'' :=
  ⟨s.toWStep.trans H t.toWStep, fun b m n cur g c e1 e2 => by
    obtain ⟨p1, p2⟩ := s.its b m n cur g c e1 e2
    obtain ⟨r1, r2⟩ := t.its b m n cur g c (by rw [p2]; exact e1) (s.ext _ _ _ e2)
    exact ⟨r1.trans p1, r2.trans p2⟩⟩
theorem VR.step (s : Step base φ h w φ' h' w') {x : AV} {v : Value} (k : VR φ w x v) : VR φ' w' x v := k.mono s.ext s.rows
theorem All2.step (s : Step base φ h w φ' h' w') {x : List AV} {v : List Value} (k : All2 (VR φ w) x v) : All2 (VR φ' w') x v := k.mono s.ext s.rows

theorem oneCell_value {x : AV} {v : Value} (k : VR φ w x v) (ho : oneCell x = true) : (∀ cs, v ≠ .agg cs) ∧ (∀ cs, v ≠ .tuple cs) := by
  cases k <;> first | (simp [oneCell] at ho; done) | (constructor <;> intro cs e <;> cases e; done) | skip
  rename_i l x hl hs k
  cases k <;> first | (simp [lane1] at hs; done) | (constructor <;> intro cs e <;> cases e; done)

theorem storeN_cells (H : HR base φ h w) {a : Loc} {ad : Addr} (k : LR φ a ad) : ∀ {vs : List AV} {us : List Value} (hv : All2 (VR φ w) vs us) (j : Nat) {h' : Heap}, storeN h a j vs = some h' →
    ∃ w', (storeCells ad us j).run P w = .ok () w' ∧ Step base φ h w φ h' w' ∧ h'.next = h.next := by
  intro vs
  induction vs generalizing h w with
  | nil =>
    intro us hv j h' hs
    cases hv
    simp only [storeN, Option.some.injEq] at hs
    subst hs
    exact ⟨w, by simp [storeCells], Step.refl H, rfl⟩
  | cons v r ih =>
    intro us hv j h' hs
    cases hv with
    | @cons _ u _ us hvu ht =>
      simp only [storeN, Option.bind_eq_some_iff] at hs
      obtain ⟨h1, hs1, hs2⟩ := hs
      obtain ⟨q1, q2, q3, q4, q5, q6, q7, q8, q9⟩ := storeC_cell H k hvu hs1
      obtain ⟨p1, p2⟩ := oneCell_value hvu q3
      have st1 : Step base φ h w φ h1 (w.setCell (ad.add j) u) :=
        ⟨⟨q4, Ext.refl _, q6, q5, fun b g c e _ => ⟨g, c, e, rfl⟩, by rw [q7]; exact Nat.le_refl _, fun b _ e => by rw [← q8]; exact e⟩, q9⟩
      obtain ⟨w', e1, e2, e3⟩ := ih q4 (ht.mono (Ext.refl _) q6) (j + 1) hs2
      refine ⟨w', ?_, st1.trans H e2, e3.trans q7⟩
      have hrun : (store (ad.add j) u).run P w = .ok () (w.setCell (ad.add j) u) := by
        unfold store
        cases hc : w.cell? (ad.add j) with
        | none => exact absurd hc q1
        | some x => cases u <;> simp_all [Sem.run]
      simp only [storeCells, Sem.run_bind, hrun, Result.andThen]
      exact e1

theorem fillTr_get (lo : Nat) : ∀ (vs : List AV) (cs cs' : Tr (Nat × AV)) (i : Nat), fillTr lo cs i vs = some cs' →
    (∀ k, cs'.get k = if i ≤ k ∧ k < i + vs.length then (vs[k - i]?).map (fun v => (lo, v)) else cs.get k) ∧ ∀ v ∈ vs, oneCell v = true
  | [], cs, cs', i, hf => by
    simp only [fillTr, Option.some.injEq] at hf
    subst hf
    exact ⟨fun k => by rw [if_neg (by simp)], by simp⟩
  | v :: r, cs, cs', i, hf => by
    unfold fillTr at hf
    split at hf
    · rename_i ho
      simp only [Option.bind_eq_some_iff] at hf
      obtain ⟨c1, h1, h2⟩ := hf
      obtain ⟨g1, g2⟩ := fillTr_get lo r c1 cs' (i + 1) h2
      refine ⟨fun k => ?_, by simpa [ho] using g2⟩
      rw [g1]
      by_cases e : k = i
      · subst e
        rw [if_neg (by omega), Tr.get_set_same h1, if_pos (by simp), Nat.sub_self]
        simp
      · by_cases e2 : i + 1 ≤ k ∧ k < i + 1 + r.length
        · rw [if_pos e2, if_pos (by simp; omega)]
          rw [show k - i = (k - (i + 1)) + 1 from by omega, List.getElem?_cons_succ]
        · rw [if_neg e2, if_neg (by simp; omega), Tr.get_set_ne h1 e]
    · cases hf

def addE (φ : Emb) (b g : Nat) (c : CL) : Emb := fun b' g' => if b' = b ∧ g' = g then some c else φ b' g'
theorem addE_ext {b g : Nat} {c : CL} (hn : φ b g = none) : Ext φ (addE φ b g c) := by
  intro b' g' c' e
  unfold addE
  rw [if_neg]
  · exact e
  · rintro ⟨rfl, rfl⟩; rw [hn] at e; cases e
theorem addE_same (φ : Emb) (b g : Nat) (c : CL) : addE φ b g c b g = some c := by unfold addE; rw [if_pos ⟨rfl, rfl⟩]

theorem alloc_get (w : World) (o : Obj) (k : Nat) (hk : k < w.heap.size) : (w.alloc o).heap[k]? = w.heap[k]? := by
  show (w.heap.push o)[k]? = _
  rw [Array.getElem?_push, if_neg (by omega)]
theorem alloc_new (w : World) (o : Obj) : (w.alloc o).heap[w.heap.size]? = some o := by
  show (w.heap.push o)[w.heap.size]? = _
  simp
theorem alloc_size (w : World) (o : Obj) : (w.alloc o).heap.size = w.heap.size + 1 := by
  show (w.heap.push o).size = _
  simp
theorem alloc_rows (w : World) (o : Obj) : Rows w (w.alloc o) := by
  rintro cb n ⟨arr, t, fz, q1, q2, q3⟩
  have : cb < w.heap.size := by
    rcases Nat.lt_or_ge cb w.heap.size with q | q
    · exact q
    · rw [Array.getElem?_eq_none q] at q1; cases q1
  exact ⟨arr, t, fz, (alloc_get w o cb this).trans q1, q2, q3⟩
theorem alloc_kept (φ : Emb) (h : Heap) (w : World) (o : Obj) : Kept φ h w (w.alloc o) :=
  ⟨rfl, rfl, rfl, by rw [alloc_size]; omega, fun cb hcb _ => alloc_get w o cb hcb⟩

/-- a new block of the machine's, a new one of the model's -/
theorem new_stepG (g0 : Nat) (H : HR base φ h w) (x : AObj) (o : Obj) (os : Tr AObj) (ho : h.objs.set h.next x = some os) (e : Nat)
    (hx : (∃ ro cs arr t fz, x = .cells ro g0 cs ∧ o = .cells arr t fz ∧ FzG g0 fz arr.size ∧
        (∀ i lo v, cs.get i = some (lo, v) → lo = g0) ∧ ∀ i lo v, cs.get i = some (lo, v) → i < e → ∃ u, arr[i]? = some u ∧ VR φ w v u ∧ oneCell v = true) ∨
      (isCells x = false ∧ g0 = 0 ∧ ObjR φ w x o)) :
    Step base φ h w (addE φ h.next g0 ⟨w.heap.size, 0, 0, e⟩) ⟨h.next + 1, os⟩ (w.alloc o) := by
  have hn : ∀ g, φ h.next g = none := (H.fresh h.next (Nat.le_refl _)).2
  have hext : Ext φ (addE φ h.next g0 ⟨w.heap.size, 0, 0, e⟩) := addE_ext (hn g0)
  have hrows := alloc_rows w o
  have inv : ∀ b g c, addE φ h.next g0 ⟨w.heap.size, 0, 0, e⟩ b g = some c → (b = h.next ∧ g = g0 ∧ c = ⟨w.heap.size, 0, 0, e⟩) ∨ (b ≠ h.next ∧ φ b g = some c) := by
    intro b g c q
    unfold addE at q
    split at q
    · rename_i p; exact .inl ⟨p.1, p.2, (Option.some.inj q).symm⟩
    · exact .inr ⟨(by rintro rfl; rw [hn] at q; cases q), q⟩
  refine ⟨⟨⟨?_, ?_, ?_, ?_, ?_, ?_, ?_⟩, hext, hrows, alloc_kept φ h w o, ?_, Nat.le_succ _, ?_⟩, fun b m n cur g c e1 e2 => ⟨alloc_get w o _ (H.range _ _ _ e2), by
    have : b < h.next := H.below e2
    show os.get b = _
    rw [Tr.get_set_ne ho (by omega)]⟩⟩
  · intro b hb
    have hb' : h.next + 1 ≤ b := hb
    refine ⟨?_, fun g => ?_⟩
    · show os.get b = none
      rw [Tr.get_set_ne ho (by omega)]; exact (H.fresh b (by omega)).1
    · cases q : addE φ h.next g0 ⟨w.heap.size, 0, 0, e⟩ b g with
      | none => rfl
      | some c =>
        rcases inv b g c q with ⟨rfl, _⟩ | ⟨_, q2⟩
        · omega
        · rw [(H.fresh b (by omega)).2 g] at q2; cases q2
  · rw [alloc_size]; have := H.low; omega
  · intro b g c q
    rw [alloc_size]
    rcases inv b g c q with ⟨_, _, rfl⟩ | ⟨_, q2⟩
    · exact Nat.lt_succ_self _
    · have := H.range _ _ _ q2; omega
  · intro b g c b' g' c' q q' ec
    rcases inv b g c q with ⟨rfl, rfl, rfl⟩ | ⟨_, q2⟩ <;> rcases inv b' g' c' q' with ⟨rfl, rfl, rfl⟩ | ⟨_, q2'⟩
    · exact ⟨rfl, rfl, rfl⟩
    · have := H.range _ _ _ q2'; simp at ec; omega
    · have := H.range _ _ _ q2; simp at ec; omega
    · exact H.inj _ _ _ _ _ _ q2 q2' ec
  · intro b ro gen cs q1 i lo v hi
    have q1' : os.get b = some (.cells ro gen cs) := q1
    by_cases hne : b = h.next
    · subst hne
      rw [Tr.get_set_same ho] at q1'
      rcases hx with ⟨ro', cs', arr, t, fz, rfl, rfl, hf, h0, hc⟩ | ⟨hx1, hg0, hx2⟩
      · cases q1'; rw [h0 i lo v hi]; exact Nat.le_refl _
      · cases q1'; cases hx1
    · rw [Tr.get_set_ne ho hne] at q1'; exact H.los _ _ _ _ q1' _ _ _ hi
  · intro b ro gen cs g c q1 q2
    have q1' : os.get b = some (.cells ro gen cs) := q1
    rcases inv b g c q2 with ⟨rfl, rfl, rfl⟩ | ⟨hne, q3⟩
    · rw [Tr.get_set_same ho] at q1'
      rcases hx with ⟨ro', cs', arr, t, fz, rfl, rfl, hf, h0, hc⟩ | ⟨hx1, hg0, hx2⟩
      · cases q1'
        refine ⟨⟨Nat.le_refl _, rfl⟩, fun _ => H.low, fun i lo v hi => by rw [h0 i lo v hi]; exact Nat.le_refl _, arr, t, fz, alloc_new w _, fun _ => hf, ?_⟩
        intro i lo v hi _ _ hie
        obtain ⟨u, p1, p2, p3⟩ := hc i lo v hi hie
        exact ⟨u, by simpa using p1, p2.mono hext hrows, p3⟩
      · cases q1'; cases hx1
    · rw [Tr.get_set_ne ho hne] at q1'
      obtain ⟨p1, p2, p3, arr, t, fz, pa, pf, pk⟩ := H.cells _ _ _ _ _ _ q1' q3
      refine ⟨p1, p2, p3, arr, t, fz, (alloc_get w o _ (H.range _ _ _ q3)).trans pa, pf, ?_⟩
      intro i lo v hi hle hao hie
      obtain ⟨u, r1, r2, r3⟩ := pk i lo v hi hle hao hie
      exact ⟨u, r1, r2.mono hext hrows, r3⟩
  · intro b y g c q1 hy q2
    have q1' : os.get b = some y := q1
    rcases inv b g c q2 with ⟨rfl, rfl, rfl⟩ | ⟨hne, q3⟩
    · rw [Tr.get_set_same ho] at q1'
      rcases hx with ⟨ro', cs', arr, t, fz, rfl, rfl, hf, h0, hc⟩ | ⟨hx1, hg0, hx2⟩
      · cases q1'; cases hy
      · cases q1'; exact ⟨H.low, ⟨rfl, hg0⟩, o, alloc_new w _, hx2.mono hext hrows⟩
    · rw [Tr.get_set_ne ho hne] at q1'
      obtain ⟨p1, p0, ob, p2, p3⟩ := H.other _ _ _ _ q1' hy q3
      exact ⟨p1, p0, ob, (alloc_get w o _ (H.range _ _ _ q3)).trans p2, p3.mono hext hrows⟩
  · intro b g c q hc
    rcases inv b g c q with ⟨rfl, rfl, rfl⟩ | ⟨hne, q3⟩
    · simp at hc
    · exact ⟨g, c, q3, rfl⟩
  · intro b hb q
    have : wr (os.get b) = true := q
    rwa [Tr.get_set_ne ho (by omega)] at this

theorem new_step (H : HR base φ h w) (x : AObj) (o : Obj) (os : Tr AObj) (ho : h.objs.set h.next x = some os) (e : Nat)
    (hx : (∃ ro cs arr t fz, x = .cells ro 0 cs ∧ o = .cells arr t fz ∧ FzG 0 fz arr.size ∧
        (∀ i lo v, cs.get i = some (lo, v) → lo = 0) ∧ ∀ i lo v, cs.get i = some (lo, v) → i < e → ∃ u, arr[i]? = some u ∧ VR φ w v u ∧ oneCell v = true) ∨
      (isCells x = false ∧ ObjR φ w x o)) :
    Step base φ h w (addE φ h.next 0 ⟨w.heap.size, 0, 0, e⟩) ⟨h.next + 1, os⟩ (w.alloc o) :=
  new_stepG 0 H x o os ho e (hx.imp (fun z => z) fun z => ⟨z.1, rfl, z.2⟩)
/-- a new row: what is made of cells that are like the machine's -/
theorem newRow_step (H : HR base φ h w) {vs : List AV} {us us' : List Value} (t : TypeId) {fz : Nat × Nat} (hv : All2 (VR φ w) vs us) {r : Nat × Heap} (hr : newRow h vs = some r)
    (hf : FzG 0 fz (us ++ us').length) :
    r.1 = h.next ∧ Step base φ h w (addE φ h.next 0 ⟨w.heap.size, 0, 0, vs.length⟩) r.2 (w.alloc (.cells (us ++ us').toArray t fz)) ∧ (∀ v ∈ vs, oneCell v = true) := by
  unfold newRow at hr
  simp only [Option.bind_eq_some_iff, Option.some.injEq] at hr
  obtain ⟨cs, h1, os, h2, rfl⟩ := hr
  obtain ⟨g1, g2⟩ := fillTr_get 0 vs .nil cs 0 h1
  refine ⟨rfl, ?_, g2⟩
  have lens := hv.length
  refine new_step H _ _ os h2 vs.length (.inl ⟨false, cs, _, t, fz, rfl, rfl, by simpa using hf, ?_, ?_⟩)
  · intro i lo v hi
    rw [g1] at hi
    split at hi
    · simp only [Option.map_eq_some_iff] at hi; obtain ⟨v', _, e⟩ := hi; cases e; rfl
    · rw [Tr.get_nil] at hi; cases hi
  · intro i lo v hi hlt
    rw [g1, if_pos (by omega)] at hi
    simp only [Option.map_eq_some_iff, Nat.sub_zero] at hi
    obtain ⟨v', e0, e⟩ := hi
    cases e
    obtain ⟨u, p1, p2⟩ := hv.get i _ e0
    refine ⟨u, ?_, p2, g2 _ (List.mem_of_getElem? e0)⟩
    rw [List.getElem?_toArray, List.getElem?_append_left (by omega)]; exact p1

theorem newRow1_step (H : HR base φ h w) {vs : List AV} {us us' : List Value} (t : TypeId) {fz : Nat × Nat} (hv : All2 (VR φ w) vs us) {r : Nat × Heap} (hr : newRow1 h vs = some r)
    (hf : FzG 1 fz (us ++ us').length) :
    r.1 = h.next ∧ Step base φ h w (addE φ h.next 1 ⟨w.heap.size, 0, 0, vs.length⟩) r.2 (w.alloc (.cells (us ++ us').toArray t fz)) ∧ (∀ v ∈ vs, oneCell v = true) := by
  unfold newRow1 at hr
  simp only [Option.bind_eq_some_iff, Option.some.injEq] at hr
  obtain ⟨cs, h1, os, h2, rfl⟩ := hr
  obtain ⟨g1, g2⟩ := fillTr_get 1 vs .nil cs 0 h1
  refine ⟨rfl, ?_, g2⟩
  have lens := hv.length
  refine new_stepG 1 H _ _ os h2 vs.length (.inl ⟨false, cs, _, t, fz, rfl, rfl, by simpa using hf, ?_, ?_⟩)
  · intro i lo v hi
    rw [g1] at hi
    split at hi
    · simp only [Option.map_eq_some_iff] at hi; obtain ⟨v', _, e⟩ := hi; cases e; rfl
    · rw [Tr.get_nil] at hi; cases hi
  · intro i lo v hi hlt
    rw [g1, if_pos (by omega)] at hi
    simp only [Option.map_eq_some_iff, Nat.sub_zero] at hi
    obtain ⟨v', e0, e⟩ := hi
    cases e
    obtain ⟨u, p1, p2⟩ := hv.get i _ e0
    refine ⟨u, ?_, p2, g2 _ (List.mem_of_getElem? e0)⟩
    rw [List.getElem?_toArray, List.getElem?_append_left (by omega)]; exact p1

/-- the world whose block is another row -/
def setBlock (w : World) (cb : Nat) (o : Obj) : World := { w with heap := w.heap.setIfInBounds cb o }
theorem grow_step (H : HR base φ h w) {a : Loc} {len n sz : Nat} {vs : List AV} {v' : AV} {h' : Heap} (hg : growA h a len n sz vs = some (v', h')) (hz : 0 < sz) (hlen : vs.length = n * sz)
    (he : a.i + len * sz ≤ a.e) :
    ∃ gen cs, h.objs.get a.b = some (.cells false gen cs) ∧ a.g = gen ∧ v' = .slice (some ⟨a.b, gen + 2, a.i, a.i + (len + n) * sz⟩) (len + n) (len + n) sz ∧ (∀ v ∈ vs, oneCell v = true) ∧ h'.next = h.next ∧
    -- in place
    (∀ (c : CL) (arr : Array Value) (t : TypeId) (fz : Nat × Nat) (arr' : Array Value) (us : List Value), φ a.b a.g = some c → a.e = c.e → c.ao ≤ a.i → w.heap[c.cb]? = some (.cells arr t fz) → arr'.size = arr.size →
      All2 (VR φ w) vs us →
      (∀ k, (k < c.co + (a.i - c.ao) + len * sz ∨ c.co + (a.i - c.ao) + (len + n) * sz ≤ k) → arr'[k]? = arr[k]?) → (∀ j u, us[j]? = some u → arr'[c.co + (a.i - c.ao) + len * sz + j]? = some u) →
      c.co + (a.i - c.ao) + (len + n) * sz ≤ arr.size →
      Step base φ h w (addE φ a.b (gen + 2) ⟨c.cb, c.co, c.ao, a.i + (len + n) * sz⟩) h' (setBlock w c.cb (.cells arr' t fz))) ∧
    -- in a new row
    (∀ (olds us rest : List Value) (t : TypeId), All2 (VR φ w) vs us → olds.length = len * sz →
      (∀ j lo v, j < len * sz → cs.get (a.i + j) = some (lo, v) → ∃ u, olds[j]? = some u ∧ VR φ w v u ∧ oneCell v = true) →
      Step base φ h w (addE φ a.b (gen + 2) ⟨w.heap.size, 0, a.i, a.i + (len + n) * sz⟩) h' (w.alloc (.cells (olds ++ us ++ rest).toArray t))) := by
  unfold growA at hg
  split at hg
  case h_2 => cases hg
  rename_i gen cs hget
  split at hg
  case isFalse => cases hg
  rename_i hgen
  simp only [Option.bind_eq_some_iff, Option.some.injEq, Prod.mk.injEq] at hg
  obtain ⟨cs', hcs, os, ho, rfl, rfl⟩ := hg
  obtain ⟨f1, f2⟩ := fillTr_get _ _ _ _ _ hcs
  have hnn : a.i + (len + n) * sz = a.i + len * sz + n * sz := by rw [Nat.add_mul]; omega
  have hb : a.b < h.next := by
    rcases Nat.lt_or_ge a.b h.next with q | q
    · exact q
    · rw [(H.fresh _ q).1] at hget; cases hget
  have glo : ∀ g c, φ a.b g = some c → g ≤ gen := fun g c e => (H.cells _ _ _ _ _ _ hget e).1.1
  have hnew : φ a.b (gen + 2) = none := by
    cases q : φ a.b (gen + 2) with
    | none => rfl
    | some c => have := glo _ _ q; omega
  have inv : ∀ (cN : CL) b g c, addE φ a.b (gen + 2) cN b g = some c → (b = a.b ∧ g = gen + 2 ∧ c = cN) ∨ ((b ≠ a.b ∨ g ≤ gen) ∧ φ b g = some c) := by
    intro cN b g c q
    unfold addE at q
    split at q
    · rename_i p; exact .inl ⟨p.1, p.2, (Option.some.inj q).symm⟩
    · refine .inr ⟨?_, q⟩
      by_cases e : b = a.b
      · subst e; exact .inr (glo _ _ q)
      · exact .inl e
  have hlo' : ∀ i lo v, cs'.get i = some (lo, v) → (a.i + len * sz ≤ i ∧ i < a.i + len * sz + n * sz ∧ lo = gen + 2 ∧ vs[i - (a.i + len * sz)]? = some v) ∨ ((i < a.i + len * sz ∨ a.i + len * sz + n * sz ≤ i) ∧ cs.get i = some (lo, v)) := by
    intro i lo v q
    rw [f1, hlen] at q
    split at q
    · rename_i p
      simp only [Option.map_eq_some_iff, Prod.mk.injEq] at q
      obtain ⟨v', e, rfl, rfl⟩ := q
      exact .inl ⟨p.1, p.2, rfl, e⟩
    · exact .inr ⟨by omega, q⟩
  have hisSome : ∀ b, wr (os.get b) = true → wr (h.objs.get b) = true := by
    intro b q
    by_cases e : b = a.b
    · subst e; rw [hget]; rfl
    · rwa [Tr.get_set_ne ho e] at q
  have hfresh : ∀ (cN : CL) b, h.next ≤ b → os.get b = none ∧ ∀ g, addE φ a.b (gen + 2) cN b g = none := by
    intro cN b hb'
    refine ⟨by rw [Tr.get_set_ne ho (by omega)]; exact (H.fresh b hb').1, fun g => ?_⟩
    unfold addE
    rw [if_neg (by omega)]; exact (H.fresh b hb').2 g
  have lall : ∀ i lo v, cs'.get i = some (lo, v) → lo ≤ gen + 2 := by
    intro i lo v hi
    rcases hlo' i lo v hi with ⟨_, _, rfl, _⟩ | ⟨_, e⟩
    · exact Nat.le_refl _
    · have := H.los _ _ _ _ hget _ _ _ e; omega
  have hlos : ∀ b ro gen cs, os.get b = some (.cells ro gen cs) → ∀ i lo v, cs.get i = some (lo, v) → lo ≤ gen := by
    intro b ro gen' cs2 q1 i lo v hi
    by_cases eb : b = a.b
    · subst eb; rw [Tr.get_set_same ho] at q1; cases q1; exact lall i lo v hi
    · rw [Tr.get_set_ne ho eb] at q1; exact H.los _ _ _ _ q1 _ _ _ hi
  refine ⟨gen, cs, hget, hgen, rfl, f2, rfl, ?_, ?_⟩
  · intro c arr t fz arr' us hc hae hao harr hsz hvu hsame hput hroom
    have hext : Ext φ (addE φ a.b (gen + 2) ⟨c.cb, c.co, c.ao, a.i + (len + n) * sz⟩) := addE_ext hnew
    have hcb := H.range _ _ _ hc
    have hat : (setBlock w c.cb (.cells arr' t fz)).heap[c.cb]? = some (.cells arr' t fz) := by
      show (w.heap.setIfInBounds c.cb _)[c.cb]? = _
      rw [Array.getElem?_setIfInBounds_self, if_pos hcb]
    have hne : ∀ cb, cb ≠ c.cb → (setBlock w c.cb (.cells arr' t fz)).heap[cb]? = w.heap[cb]? := by
      intro cb hcb'
      show (w.heap.setIfInBounds c.cb _)[cb]? = _
      rw [Array.getElem?_setIfInBounds_ne (fun e => hcb' e.symm)]
    have hsize : (setBlock w c.cb (.cells arr' t fz)).heap.size = w.heap.size := by
      show (w.heap.setIfInBounds c.cb _).size = _
      rw [Array.size_setIfInBounds]
    have hrows : Rows w (setBlock w c.cb (.cells arr' t fz)) := by
      rintro cb k ⟨arr2, t2, fz2, q1, q2, q3⟩
      by_cases e : cb = c.cb
      · subst e
        rw [harr] at q1; cases q1
        exact ⟨_, _, _, hat, by rw [hsz]; exact q2, by rw [hsz]; exact q3⟩
      · exact ⟨_, _, _, (hne cb e).trans q1, q2, q3⟩
    obtain ⟨hg0, hbase, hlo, arr0, t0, fz0, p0, pf0, pk0⟩ := H.cells _ _ _ _ _ _ hget hc
    rw [harr] at p0; cases p0
    refine ⟨⟨⟨hfresh _, by rw [hsize]; exact H.low, ?_, ?_, hlos, ?_, ?_⟩, hext, hrows, ⟨rfl, rfl, rfl, by rw [hsize]; exact Nat.le_refl _, ?_⟩, ?_, Nat.le_refl _, fun b _ => hisSome b⟩, fun b m n' cur g c' e1 e2 => ?_⟩
    · intro b g c' q
      rw [hsize]
      rcases inv _ b g c' q with ⟨_, _, rfl⟩ | ⟨_, q2⟩
      · exact hcb
      · exact H.range _ _ _ q2
    · intro b g c1 b' g' c2 q q' ec
      rcases inv _ b g c1 q with ⟨rfl, rfl, rfl⟩ | ⟨_, q2⟩ <;> rcases inv _ b' g' c2 q' with ⟨rfl, rfl, rfl⟩ | ⟨_, q2'⟩
      · exact ⟨rfl, rfl, rfl⟩
      · exact H.inj _ _ c _ _ _ hc q2' ec
      · exact H.inj _ _ _ _ _ c q2 hc ec
      · exact H.inj _ _ _ _ _ _ q2 q2' ec
    · intro b ro gen' cs2 g c' q1 q2
      have q1' : os.get b = some (.cells ro gen' cs2) := q1
      by_cases eb : b = a.b
      · subst eb
        rw [Tr.get_set_same ho] at q1'
        cases q1'
        rcases inv _ _ g c' q2 with ⟨_, rfl, rfl⟩ | ⟨hor, q3⟩
        · refine ⟨⟨Nat.le_refl _, rfl⟩, hbase, lall, _, _, _, hat, by rw [hsz]; exact fun z => ⟨(pf0 z).1, fun z2 => (pf0 z).2 (by omega)⟩, ?_⟩
          intro i lo v hi hle hai hie
          simp only at hai hie ⊢
          rcases hlo' i lo v hi with ⟨e1, e2, _, e4⟩ | ⟨e1, e2⟩
          · obtain ⟨u, r1, r2⟩ := hvu.get _ _ e4
            refine ⟨u, ?_, r2.mono hext hrows, f2 _ (List.mem_of_getElem? e4)⟩
            rw [← hput _ _ r1]; congr 1; omega
          · have hi0 : i < a.i + len * sz := by omega
            obtain ⟨u, r1, r2, r3⟩ := pk0 i lo v e2 (by have := hlo _ _ _ e2; omega) hai (by omega)
            refine ⟨u, ?_, r2.mono hext hrows, r3⟩
            rw [hsame _ (.inl (by omega))]; exact r1
        · obtain ⟨p1, p2, p3, arr2, t2, fz2, pa, pf, pk⟩ := H.cells _ _ _ _ _ _ hget q3
          refine ⟨by omega, p2, lall, ?_⟩
          by_cases ecb : c'.cb = c.cb
          · obtain ⟨_, eco, eao⟩ := H.inj _ _ _ _ _ _ q3 hc ecb
            rw [ecb, harr] at pa; cases pa
            refine ⟨_, _, _, by rw [ecb]; exact hat, by rw [hsz]; exact pf, ?_⟩
            intro i lo v hi hle hai hie
            rcases hlo' i lo v hi with ⟨_, _, e3, _⟩ | ⟨e1, e2⟩
            · omega
            · obtain ⟨u, r1, r2, r3⟩ := pk i lo v e2 hle hai hie
              refine ⟨u, ?_, r2.mono hext hrows, r3⟩
              rw [hsame _ (by omega)]; exact r1
          · refine ⟨_, _, _, (hne _ ecb).trans pa, pf, ?_⟩
            intro i lo v hi hle hai hie
            rcases hlo' i lo v hi with ⟨_, _, e3, _⟩ | ⟨e1, e2⟩
            · omega
            · obtain ⟨u, r1, r2, r3⟩ := pk i lo v e2 hle hai hie
              exact ⟨u, r1, r2.mono hext hrows, r3⟩
      · rw [Tr.get_set_ne ho eb] at q1'
        have q3 : φ b g = some c' := by
          rcases inv _ b g c' q2 with ⟨e, _⟩ | ⟨_, q3⟩
          · exact absurd e eb
          · exact q3
        obtain ⟨p1, p2, p3, arr2, t2, fz2, pa, pf, pk⟩ := H.cells _ _ _ _ _ _ q1' q3
        have ecb : c'.cb ≠ c.cb := fun e => eb (H.inj _ _ _ _ _ _ q3 hc e).1
        refine ⟨p1, p2, p3, _, _, _, (hne _ ecb).trans pa, pf, ?_⟩
        intro i lo v hi hle hai hie
        obtain ⟨u, r1, r2, r3⟩ := pk i lo v hi hle hai hie
        exact ⟨u, r1, r2.mono hext hrows, r3⟩
    · intro b y g c' q1 hy q2
      have q1' : os.get b = some y := q1
      by_cases eb : b = a.b
      · subst eb; rw [Tr.get_set_same ho] at q1'; cases q1'; cases hy
      · rw [Tr.get_set_ne ho eb] at q1'
        have q3 : φ b g = some c' := by
          rcases inv _ b g c' q2 with ⟨e, _⟩ | ⟨_, q3⟩
          · exact absurd e eb
          · exact q3
        obtain ⟨p1, p0, ob, p2, p3⟩ := H.other _ _ _ _ q1' hy q3
        exact ⟨p1, p0, ob, (hne _ fun e => eb (H.inj _ _ _ _ _ _ q3 hc e).1).trans p2, p3.mono hext hrows⟩
    · intro cb hcb' hk
      exact hne cb fun e => hk a.b a.g c hc (by rw [hget]; rfl) e.symm
    · intro b g c' q hlt
      rcases inv _ b g c' q with ⟨rfl, _, rfl⟩ | ⟨_, q2⟩
      · exact ⟨a.g, c, hc, rfl⟩
      · exact ⟨g, c', q2, rfl⟩
    · have eb : b ≠ a.b := by rintro rfl; rw [hget] at e1; cases e1
      exact ⟨hne _ fun e => eb (H.inj _ _ _ _ _ _ e2 hc e).1, by show os.get b = _; rw [Tr.get_set_ne ho eb]⟩
  · intro olds us rest t hvu hol hold
    have hext : Ext φ (addE φ a.b (gen + 2) ⟨w.heap.size, 0, a.i, a.i + (len + n) * sz⟩) := addE_ext hnew
    have hrows := alloc_rows w (.cells (olds ++ us ++ rest).toArray t)
    have hlu := hvu.length
    refine ⟨⟨⟨hfresh _, by rw [alloc_size]; have := H.low; omega, ?_, ?_, hlos, ?_, ?_⟩, hext, hrows, alloc_kept _ _ _ _, ?_, Nat.le_refl _, fun b _ => hisSome b⟩, fun b m n' cur g c' e1 e2 => ⟨alloc_get w _ _ (H.range _ _ _ e2), by
      have eb : b ≠ a.b := by rintro rfl; rw [hget] at e1; cases e1
      show os.get b = _
      rw [Tr.get_set_ne ho eb]⟩⟩
    · intro b g c' q
      rw [alloc_size]
      rcases inv _ b g c' q with ⟨_, _, rfl⟩ | ⟨_, q2⟩
      · exact Nat.lt_succ_self _
      · have := H.range _ _ _ q2; omega
    · intro b g c1 b' g' c2 q q' ec
      rcases inv _ b g c1 q with ⟨rfl, rfl, rfl⟩ | ⟨_, q2⟩ <;> rcases inv _ b' g' c2 q' with ⟨rfl, rfl, rfl⟩ | ⟨_, q2'⟩
      · exact ⟨rfl, rfl, rfl⟩
      · have := H.range _ _ _ q2'; simp only at ec; omega
      · have := H.range _ _ _ q2; simp only at ec; omega
      · exact H.inj _ _ _ _ _ _ q2 q2' ec
    · intro b ro gen' cs2 g c' q1 q2
      have q1' : os.get b = some (.cells ro gen' cs2) := q1
      by_cases eb : b = a.b
      · subst eb
        rw [Tr.get_set_same ho] at q1'
        cases q1'
        rcases inv _ _ g c' q2 with ⟨_, rfl, rfl⟩ | ⟨hor, q3⟩
        · refine ⟨⟨Nat.le_refl _, rfl⟩, fun _ => H.low, lall, _, _, _, alloc_new w _, fun _ => ⟨⟨Nat.le_refl _, fun o ho' => by omega⟩, fun _ => rfl⟩, ?_⟩
          · intro i lo v hi hle hai hie
            simp only at hai hie ⊢
            rcases hlo' i lo v hi with ⟨e1, e2, _, e4⟩ | ⟨e1, e2⟩
            · obtain ⟨u, r1, r2⟩ := hvu.get _ _ e4
              refine ⟨u, ?_, r2.mono hext hrows, f2 _ (List.mem_of_getElem? e4)⟩
              rw [List.getElem?_toArray, List.append_assoc, List.getElem?_append_right (by omega), List.getElem?_append_left (by omega), ← r1]
              congr 1; omega
            · obtain ⟨u, r1, r2, r3⟩ := hold (i - a.i) lo v (by omega) (by rw [show a.i + (i - a.i) = i from by omega]; exact e2)
              refine ⟨u, ?_, r2.mono hext hrows, r3⟩
              rw [List.getElem?_toArray, List.append_assoc, List.getElem?_append_left (by omega), ← r1]
              congr 1; omega
        · obtain ⟨p1, p2, p3, arr2, t2, fz2, pa, pf, pk⟩ := H.cells _ _ _ _ _ _ hget q3
          refine ⟨by omega, p2, ?_, _, _, _, (alloc_get w _ _ (H.range _ _ _ q3)).trans pa, pf, ?_⟩
          · intro i lo v hi
            rcases hlo' i lo v hi with ⟨_, _, rfl, _⟩ | ⟨_, e⟩
            · exact Nat.le_refl _
            · have := p3 _ _ _ e; omega
          · intro i lo v hi hle hai hie
            rcases hlo' i lo v hi with ⟨_, _, e3, _⟩ | ⟨e1, e2⟩
            · omega
            · obtain ⟨u, r1, r2, r3⟩ := pk i lo v e2 hle hai hie
              exact ⟨u, r1, r2.mono hext hrows, r3⟩
      · rw [Tr.get_set_ne ho eb] at q1'
        have q3 : φ b g = some c' := by
          rcases inv _ b g c' q2 with ⟨e, _⟩ | ⟨_, q3⟩
          · exact absurd e eb
          · exact q3
        obtain ⟨p1, p2, p3, arr2, t2, fz2, pa, pf, pk⟩ := H.cells _ _ _ _ _ _ q1' q3
        refine ⟨p1, p2, p3, _, _, _, (alloc_get w _ _ (H.range _ _ _ q3)).trans pa, pf, ?_⟩
        intro i lo v hi hle hai hie
        obtain ⟨u, r1, r2, r3⟩ := pk i lo v hi hle hai hie
        exact ⟨u, r1, r2.mono hext hrows, r3⟩
    · intro b y g c' q1 hy q2
      have q1' : os.get b = some y := q1
      by_cases eb : b = a.b
      · subst eb; rw [Tr.get_set_same ho] at q1'; cases q1'; cases hy
      · rw [Tr.get_set_ne ho eb] at q1'
        have q3 : φ b g = some c' := by
          rcases inv _ b g c' q2 with ⟨e, _⟩ | ⟨_, q3⟩
          · exact absurd e eb
          · exact q3
        obtain ⟨p1, p0, ob, p2, p3⟩ := H.other _ _ _ _ q1' hy q3
        exact ⟨p1, p0, ob, (alloc_get w _ _ (H.range _ _ _ q3)).trans p2, p3.mono hext hrows⟩
    · intro b g c' q hlt
      rcases inv _ b g c' q with ⟨rfl, _, rfl⟩ | ⟨_, q2⟩
      · simp only at hlt; omega
      · exact ⟨g, c', q2, rfl⟩
end Go.Vai
/- The abstract machine: what each operation does there, it does in the model (all but calls, appends, copies, conversions). -/
namespace Go.Vai
set_option linter.unusedVariables false
set_option linter.unusedSimpArgs false
set_option linter.unusedSectionVars false
variable [Lane]
variable {P : Program} {base : Nat} {φ φ' φ'' : Emb} {h h' h'' : Heap} {w w' w'' : World}

theorem run_sizeT {t : TypeId} {n : Nat} (e : sizeT P t = some n) (w : World) : (sizeOf t).run P w = .ok n w := by
  unfold sizeT at e
  simp only [Option.map_eq_some_iff] at e
  obtain ⟨i, h1, rfl⟩ := e
  simp [sizeOf, typeInfo, h1]
theorem run_isAggT {t : TypeId} {g : Bool} (e : isAggT P t = some g) (w : World) : (isAgg t).run P w = .ok g w := by
  unfold isAggT at e
  unfold isAgg
  split at e
  · rename_i h1; cases e; simp [run_underlying h1]
  · rename_i h1; cases e; simp [run_underlying h1]
  · rename_i d h1 h2 h3
    cases e
    simp only [Sem.run_bind, run_underlying h3, Result.andThen_ok]
    rfl
  · cases e
theorem ofV1_VR {v : Value} {x : AV} (e : ofV1 v = some x) : VR φ w x v ∧ oneCell x = true := by
  unfold ofV1 at e
  split at e
  case h_9 => cases e
  all_goals cases e
  · exact ⟨.bool _, rfl⟩
  · exact ⟨.int _ _, rfl⟩
  · exact ⟨.str _, rfl⟩
  · exact ⟨.nilPtr, rfl⟩
  · exact ⟨.nilSlice, rfl⟩
  · exact ⟨.nilMap, rfl⟩
  · exact ⟨.nilf, rfl⟩
  · exact ⟨.nilI, rfl⟩
theorem mapO_all2 {α β γ : Type} {f : α → Option β} {R : β → γ → Prop} {g : α → γ} : ∀ (l : List α) (r : List β) (hf : ∀ a ∈ l, ∀ b, f a = some b → R b (g a)), mapO f l = some r → All2 R r (l.map g)
  | [], r, hf, e => by simp only [mapO, Option.some.injEq] at e; subst e; exact .nil
  | a :: l, r, hf, e => by
    simp only [mapO, Option.bind_eq_some_iff, Option.some.injEq] at e
    obtain ⟨b, h1, r', h2, rfl⟩ := e
    exact .cons (hf a (by simp) b h1) (mapO_all2 l r' (fun a ha => hf a (by simp [ha])) h2)
theorem ofV_VR {v : Value} {x : AV} (e : ofV v = some x) : VR φ w x v := by
  unfold ofV at e
  split at e
  · rename_i cs
    simp only [Option.map_eq_some_iff] at e
    obtain ⟨r, h1, rfl⟩ := e
    have := mapO_all2 (R := VR φ w) (g := id) cs.toList r (fun a _ b hb => (ofV1_VR hb).1) h1
    rw [List.map_id] at this
    exact .agg r cs.toList this
  · exact (ofV1_VR e).1
theorem run_zeroT {t : TypeId} {x : AV} (e : zeroT P t = some x) (w : World) : ∃ z, (zeroValue t).run P w = .ok z w ∧ ∀ φ w, VR φ w x z := by
  unfold zeroT at e
  simp only [Option.bind_eq_some_iff] at e
  obtain ⟨i, h1, z, h2, h3⟩ := e
  refine ⟨z, by simp [zeroValue, typeInfo, h1, h2], fun φ w => ofV_VR h3⟩
theorem cells_VR {x : AV} {v : Value} (k : VR φ w x v) : All2 (VR φ w) (cellsA x) v.cells.toList := by
  have k0 := k
  cases k
  case agg => assumption
  case vec l x hl hs k =>
    have hv : v.cells.toList = [v] := by cases k <;> first | (simp [lane1] at hs; done) | rfl
    rw [hv]; exact .cons k0 .nil
  all_goals exact .cons k0 .nil

/-! loads, stores -/
theorem loadAt_ok (H : HR base φ h w) {t : TypeId} {x v : AV} {p : Value} (hp : VR φ w x p) (hl : loadV P h t x = some v) :
    ∃ u, (Instr.loadAt t p).run P w = .ok u w ∧ VR φ w v u := by
  unfold loadV at hl
  split at hl
  case h_2 => cases hl
  rename_i a
  cases hp with
  | ptr _ ad hL =>
  simp only [Option.bind_eq_some_iff] at hl
  obtain ⟨g, hg, hl⟩ := hl
  have r0 : (Instr.sureAddr (.pointer (some ad))).run P w = .ok ad w := rfl
  unfold Instr.loadAt loadVar
  simp only [Sem.run_bind, r0, Result.andThen_ok, run_isAggT hg]
  cases g with
  | true =>
    simp only [if_true, Option.bind_eq_some_iff, Option.map_eq_some_iff] at hl
    obtain ⟨n, hn, vs, hvs, rfl⟩ := hl
    obtain ⟨us, h1, h2, _⟩ := loadN_cells (P := P) H hL n 0 vs #[] hvs
    refine ⟨.agg ⟨us⟩, ?_, .agg vs us h2⟩
    simp only [if_true, Sem.run_bind, run_sizeT hn, Result.andThen_ok, loadCells, h1]
    simp
  | false =>
    simp only [Bool.false_eq_true, if_false] at hl
    obtain ⟨u, h1, h2, _⟩ := loadC_cell H hL hl
    refine ⟨u, ?_, h2⟩
    rw [add_zero] at h1
    simp [load, Sem.run, h1]

theorem storeAt_ok (H : HR base φ h w) {t : TypeId} {x v : AV} {p u : Value} (hp : VR φ w x p) (hv : VR φ w v u) (hs : storeV P h t x v = some h') :
    ∃ w', (Instr.storeAt t p u).run P w = .ok () w' ∧ Step base φ h w φ h' w' ∧ h'.next = h.next := by
  unfold storeV at hs
  split at hs
  case h_2 => cases hs
  rename_i a
  cases hp with
  | ptr _ ad hL =>
  simp only [Option.bind_eq_some_iff] at hs
  obtain ⟨n, hn, hs⟩ := hs
  split at hs
  case isFalse => cases hs
  rename_i hlen
  have hc := cells_VR hv
  obtain ⟨w', h1, h2, h3⟩ := storeN_cells (P := P) H hL hc 0 hs
  refine ⟨w', ?_, h2, h3⟩
  have r0 : (Instr.sureAddr (.pointer (some ad))).run P w = .ok ad w := rfl
  have e : u.cells.size = n := by rw [← hlen, hc.length, Array.length_toList]
  unfold Instr.storeAt storeVar
  simp only [Sem.run_bind, r0, Result.andThen_ok, run_sizeT hn, e, ne_eq, not_true_eq_false, if_false]
  exact h1
theorem fzG0 (l : List Value) : FzG 0 (0, 0) l.length := ⟨⟨Nat.le_refl _, by intro o _ ⟨_, q⟩; exact Nat.not_lt_zero _ q⟩, fun _ => rfl⟩
theorem fz00 (n : Nat) : FzOk (0, 0) n := ⟨Nat.le_refl _, by intro o _ ⟨_, q⟩; exact Nat.not_lt_zero _ q⟩
theorem nofrozen (l : List Value) : FzOk (0, 0) l.length := ⟨Nat.le_refl _, by intro o _ ⟨_, q⟩; exact Nat.not_lt_zero _ q⟩
/-- a new variable -/
theorem newVar_ok (H : HR base φ h w) {t : TypeId} {x : AV} {u : Value} (hx : VR φ w x u) {r : Nat × Heap} (hr : newRow h (cellsA x) = some r) :
    ∃ φ' w' ad, (newVar t u).run P w = .ok ad w' ∧ Step base φ h w φ' r.2 w' ∧ LR φ' ⟨r.1, 0, 0, (cellsA x).length⟩ ad := by
  have hc := cells_VR hx
  obtain ⟨h1, h2, h3⟩ := newRow_step H (us' := []) t hc hr (fzG0 _)
  rw [List.append_nil, Array.toArray_toList] at h2
  refine ⟨_, _, ⟨w.heap.size, 0, none⟩, ?_, h2, ?_⟩
  · rfl
  · rw [h1]; exact ⟨_, addE_same _ _ _ _, rfl, Nat.le_refl _, by simp⟩

theorem newVal_ok (H : HR base φ h w) {t : TypeId} {x : AV} {u : Value} (hx : VR φ w x u) {r : ANext} (hr : newVal h x = some r) :
    ∃ v h', r = .val v h' ∧ ∃ φ' w' ad, (newVar t u).run P w = .ok ad w' ∧ Step base φ h w φ' h' w' ∧ VR φ' w' v (.pointer (some ad)) := by
  unfold newVal at hr
  simp only [Option.map_eq_some_iff] at hr
  obtain ⟨q, h1, rfl⟩ := hr
  obtain ⟨φ', w', ad, e1, e2, e3⟩ := newVar_ok (P := P) H (t := t) hx h1
  exact ⟨_, _, rfl, φ', w', ad, e1, e2, .ptr _ _ e3⟩

/-! parts put together -/
theorem spread_foldl (off : Nat) : ∀ (us cs : Array Value), off + us.size ≤ cs.size →
    (us.zipIdx.foldl (fun cs (cj : Value × Nat) => cs.setIfInBounds (off + cj.2) cj.1) cs).toList = cs.toList.take off ++ us.toList ++ cs.toList.drop (off + us.size) := by
  have key : ∀ (us : List Value) (k : Nat) (cs : List Value), off + k + us.length ≤ cs.length →
      ((us.zipIdx k).foldl (fun (cs : Array Value) (cj : Value × Nat) => cs.setIfInBounds (off + cj.2) cj.1) cs.toArray).toList = cs.take (off + k) ++ us ++ cs.drop (off + k + us.length) := by
    intro us
    induction us with
    | nil => intro k cs hk; simp
    | cons u us ih =>
      intro k cs hk
      simp only [List.length_cons] at hk
      simp only [List.zipIdx_cons, List.foldl_cons, List.setIfInBounds_toArray]
      rw [ih (k + 1) _ (by simp; omega)]
      have hlt : off + k < cs.length := by omega
      rw [List.take_set, List.drop_set_of_lt (by omega)]
      rw [show off + (k + 1) = (off + k) + 1 from by omega, List.take_succ_eq_append_getElem hlt, List.set_append_right _ _ (by simp; omega)]
      simp only [List.length_take, Nat.min_eq_left (Nat.le_of_lt hlt), Nat.sub_self, List.set_cons_zero, List.append_assoc, List.singleton_append, List.length_cons, List.cons_append, List.nil_append]
      rw [show off + k + 1 + us.length = off + k + (us.length + 1) from by omega]
  intro us cs hk
  have := key us.toList 0 cs.toList (by simpa using hk)
  simp only [Nat.add_zero, Array.toArray_toList, Array.length_toList] at this
  rw [← this, ← Array.foldl_toList, Array.toList_zipIdx]
theorem fill_ok {pl : Nat → Option (Nat × Nat)} : ∀ (ps : List (Nat × AV)) (qs : List (Nat × Value)) (cs out : List AV) (us : Array Value),
    All2 (fun (p : Nat × AV) (q : Nat × Value) => p.1 = q.1 ∧ VR φ w p.2 q.2) ps qs → All2 (VR φ w) cs us.toList → fillA pl cs ps = some out →
    ∃ us', Instr.fill pl us qs = some us' ∧ All2 (VR φ w) out us'.toList
  | [], qs, cs, out, us, hp, hc, hf => by
    cases hp
    simp only [fillA, Option.some.injEq] at hf
    subst hf
    exact ⟨us, rfl, hc⟩
  | (i, v) :: ps, qs, cs, out, us, hp, hc, hf => by
    cases hp with
    | @cons _ q _ qs h1 ht =>
      obtain ⟨j, u⟩ := q
      obtain ⟨rfl, hv⟩ := h1
      simp only [fillA, Option.bind_eq_some_iff] at hf
      obtain ⟨⟨off, size⟩, e1, hf⟩ := hf
      simp only at hf
      split at hf
      case isFalse => cases hf
      rename_i hcond
      have hvc := cells_VR hv
      have l1 : (cellsA v).length = u.cells.size := by rw [hvc.length, Array.length_toList]
      have l2 : cs.length = us.size := by rw [hc.length, Array.length_toList]
      have hsz : off + u.cells.size ≤ us.size := by omega
      have hnew : All2 (VR φ w) (spread cs off (cellsA v)) (us.toList.take off ++ u.cells.toList ++ us.toList.drop (off + u.cells.size)) := by
        unfold spread
        rw [l1]
        exact ((hc.take off).append hvc).append (hc.drop _)
      rw [← spread_foldl off u.cells us hsz] at hnew
      obtain ⟨us', r1, r2⟩ := fill_ok ps qs _ out _ ht hnew hf
      refine ⟨us', ?_, r2⟩
      simp only [Instr.fill, e1]
      rw [if_neg]
      · exact r1
      · simp only [Bool.or_eq_true, decide_eq_true_eq, ne_eq, not_or]
        omega

theorem run_placesO (w : World) : ∀ (fs : List Field) (l : List (Nat × Nat)), mapO (fun (f : Field) => (sizeT P f.type).map fun n => (f.offset, n)) fs = some l →
    (fs.mapM fun f => (do pure (f.offset, ← sizeOf f.type) : Sem (Nat × Nat))).run P w = .ok l w
  | [], l, e => by simp only [mapO, Option.some.injEq] at e; subst e; simp
  | f :: fs, l, e => by
    simp only [mapO, Option.bind_eq_some_iff, Option.some.injEq, Option.map_eq_some_iff] at e
    obtain ⟨p, ⟨n, h1, rfl⟩, r, h2, rfl⟩ := e
    simp only [List.mapM_cons, Sem.run_bind, run_sizeT h1, Result.andThen_ok, Sem.run_pure, run_placesO w fs r h2]
theorem parts_all2 {a : Act} {ρ : Rho} (hρ : ∀ x v, ρ x = some v → VR φ w v (a.eval x)) (parts : Array (Nat × Operand)) {ps : List (Nat × AV)} (e : partsA ρ parts = some ps) :
    All2 (fun (p : Nat × AV) (q : Nat × Value) => p.1 = q.1 ∧ VR φ w p.2 q.2) ps (parts.map fun (i, x) => (i, a.eval x)).toList := by
  unfold partsA at e
  rw [Array.toList_map]
  refine mapO_all2 parts.toList ps (fun p _ b hb => ?_) e
  simp only [Option.map_eq_some_iff] at hb
  obtain ⟨v, h1, rfl⟩ := hb
  exact ⟨rfl, hρ _ _ h1⟩
theorem build_ok {a : Act} {ρ : Rho} (hρ : ∀ x v, ρ x = some v → VR φ w v (a.eval x)) {t : TypeId} {parts : Array (Nat × Operand)} {r : ANext} (e : oBuild P t parts ρ h = some r) :
    ∃ v u, r = .val v h ∧ (Instr.build t (parts.map fun (i, x) => (i, a.eval x))).run P w = .ok u w ∧ VR φ w v u := by
  unfold oBuild at e
  simp only [Option.bind_eq_some_iff, pureO, Option.map_eq_some_iff] at e
  obtain ⟨z, hz, pl, hpl, ps, hps, v, ⟨cs, hcs, rfl⟩, rfl⟩ := e
  obtain ⟨zv, z1, z2⟩ := run_zeroT hz w
  have hp2 := parts_all2 (w := w) hρ parts hps
  have hzc := cells_VR (z2 φ w)
  unfold placesT at hpl
  split at hpl
  · rename_i fs hu
    simp only [Option.map_eq_some_iff] at hpl
    obtain ⟨l, hl, rfl⟩ := hpl
    obtain ⟨us, f1, f2⟩ := fill_ok ps _ _ _ zv.cells hp2 hzc hcs
    have hm : (fs.mapM fun f => (do pure (f.offset, ← sizeOf f.type) : Sem (Nat × Nat))).run P w = .ok l.toArray w := by
      rw [Array.mapM_eq_mapM_toList]
      simp only [Sem.run_map, run_placesO w _ _ hl, Result.andThen_ok]
    have f1' : Instr.fill (fun i => l.toArray[i]?) zv.cells (parts.map fun (i, x) => (i, a.eval x)).toList = some us := by
      rw [← f1]; congr 1; funext i; simp
    refine ⟨_, .agg us, rfl, ?_, .agg cs us.toList f2⟩
    unfold Instr.build
    simp only [Sem.run_bind, z1, Result.andThen_ok, run_underlying hu, hm]
    rw [f1']; rfl
  · rename_i len el hu
    simp only [Option.map_eq_some_iff] at hpl
    obtain ⟨n, hn, rfl⟩ := hpl
    obtain ⟨us, f1, f2⟩ := fill_ok ps _ _ _ zv.cells hp2 hzc hcs
    refine ⟨_, .agg us, rfl, ?_, .agg cs us.toList f2⟩
    unfold Instr.build
    simp only [Sem.run_bind, z1, Result.andThen_ok, run_underlying hu, run_sizeT hn]
    rw [f1]; rfl
  · cases hpl
theorem reps_ok {zs : List AV} {us : List Value} (hz : All2 (VR φ w) zs us) : ∀ n, All2 (VR φ w) (reps zs n) (List.replicate n us).flatten
  | 0 => .nil
  | n + 1 => by rw [List.replicate_succ, List.flatten_cons]; exact hz.append (reps_ok hz n)
theorem reps_length (zs : List AV) : ∀ n, (reps zs n).length = n * zs.length
  | 0 => by simp [reps]
  | n + 1 => by rw [reps, List.length_append, reps_length zs n, Nat.add_mul]; omega
theorem range_flatten (us : Array Value) (n : Nat) : (Array.range (n * us.size)).map (us[· % us.size]!) = (List.replicate n us.toList).flatten.toArray := by
  apply Array.ext'
  simp only [Array.toList_map, Array.toList_range]
  induction n with
  | zero => simp
  | succ n ih =>
    rw [Nat.add_mul, Nat.one_mul, List.range_add, List.map_append, ih, List.replicate_succ', List.flatten_append]
    congr 1
    simp only [List.flatten_cons, List.flatten_nil, List.append_nil, List.map_map]
    apply List.ext_getElem
    · simp
    · intro i h1 h2
      simp only [List.length_map, List.length_range] at h1
      simp only [List.getElem_map, List.getElem_range, Function.comp_apply, Array.getElem_toList]
      have e : (n * us.size + i) % us.size = i := by rw [Nat.mul_comm, Nat.mul_add_mod, Nat.mod_eq_of_lt h1]
      rw [e]
      simp [getElem!_pos, h1]

theorem fillA_length {pl : Nat → Option (Nat × Nat)} : ∀ (ps : List (Nat × AV)) (cs out : List AV), fillA pl cs ps = some out → out.length = cs.length
  | [], cs, out, e => by simp only [fillA, Option.some.injEq] at e; rw [e]
  | (i, v) :: ps, cs, out, e => by
    simp only [fillA, Option.bind_eq_some_iff] at e
    obtain ⟨⟨off, size⟩, e1, e2⟩ := e
    simp only at e2
    split at e2
    case isFalse => cases e2
    rename_i hc
    rw [fillA_length ps _ _ e2]
    unfold spread
    simp only [List.length_append, List.length_take, List.length_drop]
    omega
/-- a row with elements, as a slice -/
theorem rowSlice_ok (H : HR base φ h w) {t : TypeId} {vs : List AV} {us : List Value} (hv : All2 (VR φ w) vs us) {r : Nat × Heap} (hr : newRow h vs = some r) {len room sz : Nat} (hl : len ≤ room) (hz : 0 < sz) (hn : vs.length = room * sz) :
    ∃ φ' w' ad, (Go.newRow t us.toArray).run P w = .ok ad w' ∧ Step base φ h w φ' r.2 w' ∧ VR φ' w' (.slice (some ⟨r.1, 0, 0, room * sz⟩) len room sz) (.slice (some ad) len room) := by
  obtain ⟨h1, h2, h3⟩ := newRow_step H (us' := []) t hv hr (fzG0 _)
  rw [List.append_nil] at h2
  refine ⟨_, _, ⟨w.heap.size, 0, none⟩, rfl, h2, ?_⟩
  have lu := hv.length
  refine .slice _ _ _ _ _ _ hl (Nat.le_refl _) hz ?_ (.inr ⟨?_, ?_⟩)
  · simp
  · rw [h1]; exact ⟨_, addE_same _ _ _ _, by simp only; omega, Nat.le_refl _, by simp⟩
  · refine ⟨us.toArray, t, (0, 0), alloc_new w _, ?_, by simpa using nofrozen us⟩
    simp only [Nat.zero_add, List.size_toArray]; omega
theorem rowSliceP_ok (H : HR base φ h w) {t : TypeId} {vs : List AV} {us : List Value} (hv : All2 (VR φ w) vs us) {b : Bool} {r : Nat × Heap} (hr : newRowP b h vs = some r) {len room sz : Nat} (hl : len ≤ room) (hz : 0 < sz) (hn : vs.length = room * sz) :
    ∃ φ' w' ad, (Go.newRow t us.toArray).run P w = .ok ad w' ∧ Step base φ h w φ' r.2 w' ∧ VR φ' w' (.slice (some ⟨r.1, cond b 1 0, 0, room * sz⟩) len room sz) (.slice (some ad) len room) := by
  cases b with
  | false => exact rowSlice_ok H hv hr hl hz hn
  | true =>
    obtain ⟨h1, h2, h3⟩ := newRow1_step H (us' := []) t hv hr (⟨nofrozen _, fun z => by cases z⟩ : FzG 1 (0, 0) _)
    rw [List.append_nil] at h2
    refine ⟨_, _, ⟨w.heap.size, 0, none⟩, rfl, h2, ?_⟩
    have lu := hv.length
    refine .slice _ _ _ _ _ _ hl (Nat.le_refl _) hz ?_ (.inr ⟨?_, ?_⟩)
    · simp
    · rw [h1]; exact ⟨_, addE_same _ _ _ _, by simp only; omega, Nat.le_refl _, by simp⟩
    · refine ⟨us.toArray, t, (0, 0), alloc_new w _, ?_, by simpa using nofrozen us⟩
      simp only [Nat.zero_add, List.size_toArray]; omega
theorem rep_zero {zv : Value} {z : AV} (hz : VR φ w z zv) (n : Nat) : All2 (VR φ w) (reps (cellsA z) n) ((Array.range (n * zv.cells.size)).map (zv.cells[· % zv.cells.size]!)).toList := by
  rw [range_flatten]; exact reps_ok (cells_VR hz) n
/-- what a row of parts is, ahead of its block -/
def rowP (P : Program) (ρ : Rho) (t : TypeId) (len : Nat) (parts : Array (Nat × Operand)) : Option (List AV × Nat) :=
  match P.underlying t with
  | some (.slice e) => (sizeT P e).bind fun n => (zeroT P e).bind fun z => (partsA ρ parts).bind fun ps =>
      if len ≤ 65536 ∧ 0 < n ∧ n ≤ 256 ∧ (cellsA z).length = n then (fillA (fun i => some (i * n, n)) (reps (cellsA z) len) ps).map fun cs => (cs, n) else none
  | _ => none
theorem buildSlice_raw {a : Act} {ρ : Rho} (hρ : ∀ x v, ρ x = some v → VR φ w v (a.eval x)) {t : TypeId} {len : Nat} {parts : Array (Nat × Operand)} {cs : List AV} {n : Nat} (e : rowP P ρ t len parts = some (cs, n)) :
    ∃ us ty, (Instr.buildSlice t len (parts.map fun (i, x) => (i, a.eval x))).run P w = .ok (.slice (some ⟨w.heap.size, 0, none⟩) len len) (w.alloc (.cells us ty)) ∧ All2 (VR φ w) cs us.toList ∧ cs.length = len * n ∧ 0 < n := by
  unfold rowP at e
  split at e
  case h_2 => cases e
  rename_i el hu
  simp only [Option.bind_eq_some_iff] at e
  obtain ⟨n, hn, z, hz, ps, hps, e⟩ := e
  split at e
  case isFalse => cases e
  rename_i hlen
  simp only [Option.map_eq_some_iff, Prod.mk.injEq] at e
  obtain ⟨cs, hcs, rfl, rfl⟩ := e
  obtain ⟨hlen, hn0, hn1, hzl⟩ := hlen
  obtain ⟨zv, z1, z2⟩ := run_zeroT hz w
  have hzc := cells_VR (z2 φ w)
  have hzs : zv.cells.size = n := by rw [← hzl, hzc.length, Array.length_toList]
  obtain ⟨us, f1, f2⟩ := fill_ok ps _ _ _ ((Array.range (len * zv.cells.size)).map (zv.cells[· % zv.cells.size]!)) (parts_all2 (w := w) hρ parts hps) (rep_zero (z2 φ w) len) hcs
  have hl : cs.length = len * n := by rw [fillA_length _ _ _ hcs, reps_length, hzl]
  have g1 : (Go.newRow el us.toList.toArray).run P w = .ok ⟨w.heap.size, 0, none⟩ (w.alloc (.cells us.toList.toArray el)) := rfl
  refine ⟨us.toList.toArray, el, ?_, by simpa using f2, hl, hn0⟩
  have hbig : ¬ (len * n > 2 ^ 24) := by
    have : len * n ≤ 65536 * 256 := Nat.mul_le_mul hlen hn1
    omega
  unfold Instr.buildSlice
  simp only [Sem.run_bind, run_underlying hu, Result.andThen_ok, run_sizeT hn, hbig, if_false, Sem.run_pure]
  by_cases h0 : len * n = 0
  · have hl0 : len = 0 := by
      rcases Nat.mul_eq_zero.mp h0 with q | q
      · exact q
      · omega
    subst hl0
    have e0 : ∀ f : Nat → Value, (Array.range 0).map f = #[] := fun f => by simp
    simp only [Nat.zero_mul, e0] at f1 ⊢
    simp only [if_true, Sem.run_bind, Sem.run_pure, Result.andThen_ok]
    have f1' : Instr.fill (fun i => some (i * n, n)) #[] (parts.map fun x => (x.1, a.eval x.2)).toList = some us := f1
    rw [f1']
    simp only [Sem.run_bind]
    rw [show us = us.toList.toArray from by simp, g1]
    rfl
  · simp only [h0, if_false, Sem.run_bind, z1, Sem.run_pure, Result.andThen_ok]
    have f1' : Instr.fill (fun i => some (i * n, n)) ((Array.range (len * zv.cells.size)).map (zv.cells[· % zv.cells.size]!)) (parts.map fun x => (x.1, a.eval x.2)).toList = some us := f1
    rw [show len * n = len * zv.cells.size from by rw [hzs], f1']
    simp only [Sem.run_bind]
    rw [show us = us.toList.toArray from by simp, g1]
    rfl
theorem buildSlice_ok (H : HR base φ h w) {a : Act} {ρ : Rho} (hρ : ∀ x v, ρ x = some v → VR φ w v (a.eval x)) {t : TypeId} {len : Nat} {parts : Array (Nat × Operand)} {r : ANext} (e : oBuildSlice P t len parts ρ h = some r) :
    ∃ v h' φ' w' u, r = .val v h' ∧ (Instr.buildSlice t len (parts.map fun (i, x) => (i, a.eval x))).run P w = .ok u w' ∧ Step base φ h w φ' h' w' ∧ VR φ' w' v u := by
  unfold oBuildSlice at e
  split at e
  case h_2 => cases e
  rename_i el hu
  simp only [Option.bind_eq_some_iff] at e
  obtain ⟨n, hn, z, hz, ps, hps, e⟩ := e
  split at e
  case isFalse => cases e
  rename_i hlen
  simp only [Option.bind_eq_some_iff, Option.map_eq_some_iff] at e
  obtain ⟨cs, hcs, q, hq, rfl⟩ := e
  obtain ⟨hlen, hn0, hn1, hzl⟩ := hlen
  obtain ⟨zv, z1, z2⟩ := run_zeroT hz w
  have hzc := cells_VR (z2 φ w)
  have hzs : zv.cells.size = n := by rw [← hzl, hzc.length, Array.length_toList]
  obtain ⟨us, f1, f2⟩ := fill_ok ps _ _ _ ((Array.range (len * zv.cells.size)).map (zv.cells[· % zv.cells.size]!)) (parts_all2 (w := w) hρ parts hps) (rep_zero (z2 φ w) len) hcs
  have hl : cs.length = len * n := by rw [fillA_length _ _ _ hcs, reps_length, hzl]
  obtain ⟨φ', w', ad, g1, g2, g3⟩ := rowSliceP_ok (P := P) H (t := el) f2 hq (Nat.le_refl len) hn0 hl
  refine ⟨_, _, φ', w', _, rfl, ?_, g2, g3⟩
  have hbig : ¬ (len * n > 2 ^ 24) := by
    have : len * n ≤ 65536 * 256 := Nat.mul_le_mul hlen hn1
    omega
  unfold Instr.buildSlice
  simp only [Sem.run_bind, run_underlying hu, Result.andThen_ok, run_sizeT hn, hbig, if_false, Sem.run_pure]
  by_cases h0 : len * n = 0
  · have hl0 : len = 0 := by
      rcases Nat.mul_eq_zero.mp h0 with q | q
      · exact q
      · omega
    subst hl0
    have e0 : ∀ f : Nat → Value, (Array.range 0).map f = #[] := fun f => by simp
    simp only [Nat.zero_mul, e0] at f1 ⊢
    simp only [if_true, Sem.run_bind, Sem.run_pure, Result.andThen_ok]
    have f1' : Instr.fill (fun i => some (i * n, n)) #[] (parts.map fun x => (x.1, a.eval x.2)).toList = some us := f1
    rw [f1']
    simp only [Sem.run_bind]
    rw [show us = us.toList.toArray from by simp, g1]
    rfl
  · simp only [h0, if_false, Sem.run_bind, z1, Sem.run_pure, Result.andThen_ok]
    have f1' : Instr.fill (fun i => some (i * n, n)) ((Array.range (len * zv.cells.size)).map (zv.cells[· % zv.cells.size]!)) (parts.map fun x => (x.1, a.eval x.2)).toList = some us := f1
    rw [show len * n = len * zv.cells.size from by rw [hzs], f1']
    simp only [Sem.run_bind]
    rw [show us = us.toList.toArray from by simp, g1]
    rfl

theorem wrap_small (n : Int) (h0 : 0 ≤ n) (h1 : n ≤ 1099511627776) : IntKind.i64.wrap n = n := by
  have e : IntKind.i64.wrap n = if (n % (2 ^ 64 : Int)) ≥ (2 ^ 63 : Int) then n % (2 ^ 64 : Int) - (2 ^ 64 : Int) else n % (2 ^ 64 : Int) := by
    simp [IntKind.wrap, IntKind.bits, IntKind.signed]
  rw [e]
  have e2 : n % (2 ^ 64 : Int) = n := Int.emod_eq_of_lt h0 (by omega)
  rw [e2, if_neg (by omega)]
theorem makeSlice_ok (H : HR base φ h w) {t el : TypeId} {l c : AV} {lv cv : Value} (hu : P.underlying t = some (.slice el)) (hl : VR φ w l lv) (hc : VR φ w c cv) {r : ANext} (e : mkV P h el l c = some r) :
    ∃ v h' φ' w' u, r = .val v h' ∧ (Instr.makeSlice t lv cv).run P w = .ok u w' ∧ Step base φ h w φ' h' w' ∧ VR φ' w' v u := by
  unfold mkV at e
  split at e
  case h_2 => cases e
  rename_i k1 l0
  split at e
  case h_2 => cases e
  rename_i k2 c0
  cases hl
  cases hc
  simp only [Option.bind_eq_some_iff] at e
  obtain ⟨n, hn, z, hz, e⟩ := e
  split at e
  case isFalse => cases e
  rename_i hcond
  obtain ⟨q1, q2, q3, q4, q5, q6, q7⟩ := hcond
  simp only [Option.map_eq_some_iff] at e
  obtain ⟨r', hr, rfl⟩ := e
  obtain ⟨zv, z1, z2⟩ := run_zeroT hz w
  have hzc := cells_VR (z2 φ w)
  have hzs : zv.cells.size = n := by rw [← q6, hzc.length, Array.length_toList]
  have hl : (reps (cellsA z) c0.toNat).length = c0.toNat * n := by rw [reps_length, q6]
  obtain ⟨φ', w', ad, g1, g2, g3⟩ := rowSlice_ok (P := P) H (t := el) (rep_zero (z2 φ w) c0.toNat) hr (show l0.toNat ≤ c0.toNat by omega) q4 hl
  refine ⟨_, _, φ', w', _, rfl, ?_, g2, g3⟩
  have hn' := hn
  unfold sizeT at hn'
  simp only [Option.map_eq_some_iff] at hn'
  obtain ⟨info, hi, hsz⟩ := hn'
  rw [hi] at q7
  simp only [Option.all_some, decide_eq_true_eq] at q7
  have ti : (typeInfo el).run P w = .ok info w := by simp [typeInfo, hi]
  have hb : ¬ ((info.bytes : Int) * c0 > 2 ^ 48) := by
    have : (info.bytes : Int) * c0 ≤ 65536 * 65536 := Int.mul_le_mul (by omega) q3 (by omega) (by omega)
    omega
  have r1 : ∀ k n, (asInt (.int k n)).run P w = .ok n w := fun k n => rfl
  have w1 := wrap_small l0 q1 (by omega)
  have w2 := wrap_small c0 (by omega) (by omega)
  have ng1 : ¬ c0 < 0 := by omega
  have ng2 : ¬ l0 < 0 := by omega
  have ng3 : ¬ l0 > c0 := by omega
  unfold Instr.makeSlice
  simp only [Sem.run_bind, run_underlying hu, Result.andThen_ok, r1, ti, w1, w2, hb, ng1, ng2, ng3, decide_false, Bool.or_false, Bool.false_eq_true, if_false, run_askRoom, run_sizeT hn, Sem.run_pure]
  by_cases h0 : c0.toNat * n = 0
  · have hl0 : c0.toNat = 0 := by
      rcases Nat.mul_eq_zero.mp h0 with q | q
      · exact q
      · omega
    have e0 : ∀ f : Nat → Value, (Array.range 0).map f = #[] := fun f => by simp
    rw [hl0] at g1 g3 ⊢
    simp only [Nat.zero_mul, e0] at g1 g3 ⊢
    simp only [if_true, Sem.run_bind, Sem.run_pure, Result.andThen_ok]
    have g1' : (Go.newRow el #[]).run P w = .ok ad w' := g1
    rw [g1']; rfl
  · simp only [h0, if_false, Sem.run_bind, z1, Sem.run_pure, Result.andThen_ok]
    rw [show c0.toNat * n = c0.toNat * zv.cells.size from by rw [hzs]]
    rw [Array.toArray_toList] at g1
    rw [g1]; rfl
end Go.Vai
/- The abstract machine: operations that only compute. -/
namespace Go.Vai
set_option linter.unusedVariables false
set_option linter.unusedSimpArgs false
set_option linter.unusedSectionVars false
variable [Lane]
variable {P : Program} {base : Nat} {φ φ' φ'' : Emb} {h h' h'' : Heap} {w w' w'' : World}

theorem int2_some {f : IntKind → Int → Int → Option AV} {x y v : AV} (e : int2 f x y = some v) : ∃ k a b, x = .int k a ∧ y = .int k b ∧ f k a b = some v := by
  unfold int2 at e
  split at e
  · rename_i k a
    split at e
    · rename_i k' b
      split at e
      · rename_i hk; subst hk; exact ⟨k, a, b, rfl, rfl, e⟩
      · cases e
    · cases e
  · cases e
/-- of two integers of one kind the operator does what it does on numbers -/
theorem bin_int (op : BinOp) (t : TypeId) (f : IntKind → Int → Int → Option AV) (ho : ∀ k a b v, f k a b = some v → ∃ u, (Go.binOp op t (.int k a) (.int k b)).run P w = .ok u w ∧ VR φ w v u)
    {x y v : AV} {xv yv : Value} (hx : VR φ w x xv) (hy : VR φ w y yv) (e : int2 f x y = some v) : ∃ u, (Go.binOp op t xv yv).run P w = .ok u w ∧ VR φ w v u := by
  obtain ⟨k, a, b, rfl, rfl, e'⟩ := int2_some e
  cases hx
  cases hy
  exact ho k a b v e'
theorem toList_mk (l : List UInt8) : (⟨⟨l⟩⟩ : ByteArray).toList = l := Lib.toList_data _
theorem append_mk (a b : List UInt8) : (⟨⟨a⟩⟩ : ByteArray) ++ ⟨⟨b⟩⟩ = ⟨⟨a ++ b⟩⟩ := by
  apply ByteArray.ext
  apply Array.ext'
  simp
theorem size_mk (l : List UInt8) : (⟨⟨l⟩⟩ : ByteArray).size = l.length := rfl
theorem notGreat (n : Nat) (hn : n ≤ 1099511627776) : ¬ ((n : Nat) : Int) > IntKind.i64.max := by
  have : IntKind.i64.max = 9223372036854775807 := rfl
  omega
theorem eqA_ok {t : TypeId} {x y : AV} {b : Bool} {xv yv : Value} (hx : VR φ w x xv) (hy : VR φ w y yv) (e : eqA P t x y = some b) : (Op.equal t xv yv).run P w = .ok b w := by
  unfold eqA at e
  unfold Op.equal Op.maxDepth
  rw [Op.equalIn]
  split at e
  all_goals (first | cases e)
  · rename_i hu
    cases hx; cases hy
    simp only [Sem.run_bind, run_underlying hu, Result.andThen_ok]; rfl
  · rename_i hu
    cases hy
    cases hx <;> (simp only [Sem.run_bind, run_underlying hu, Result.andThen_ok]; rfl)
  · rename_i hu
    cases hx
    cases hy <;> (simp only [Sem.run_bind, run_underlying hu, Result.andThen_ok]; rfl)
  · rename_i hu
    cases hx
    cases hy <;> (simp only [Sem.run_bind, run_underlying hu, Result.andThen_ok]; rfl)
  · rename_i hu
    cases hy
    cases hx <;> (simp only [Sem.run_bind, run_underlying hu, Result.andThen_ok]; rfl)
  · rename_i hu
    cases hx; cases hy
    simp only [Sem.run_bind, run_underlying hu, Result.andThen_ok]; rfl
theorem eqT_ok {t : TypeId} {x y : AV} {b : Bool} {xv yv : Value} (hx : VR φ w x xv) (hy : VR φ w y yv) (e : eqA P t x y = some b) :
    (Go.binOp .eql t xv yv).run P w = .ok (.bool b) w ∧ (Go.binOp .neq t xv yv).run P w = .ok (.bool (!b)) w := by
  have h1 := eqA_ok (P := P) hx hy e
  have hs : (∃ b c, x = .bool b ∧ y = .bool c) ∨ (∃ a n r s a' n' r' s', x = .slice a n r s ∧ y = .slice a' n' r' s') ∨ (∃ a a', x = .ptr a ∧ y = .ptr a') ∨ (x = .nilI ∧ y = .nilI) := by
    unfold eqA at e
    split at e
    · exact .inl ⟨_, _, rfl, rfl⟩
    · exact .inr (.inl ⟨_, _, _, _, _, _, _, _, rfl, rfl⟩)
    · exact .inr (.inl ⟨_, _, _, _, _, _, _, _, rfl, rfl⟩)
    · exact .inr (.inr (.inl ⟨_, _, rfl, rfl⟩))
    · exact .inr (.inr (.inl ⟨_, _, rfl, rfl⟩))
    · exact .inr (.inr (.inr ⟨rfl, rfl⟩))
    · cases e
  rcases hs with ⟨b0, c0, rfl, rfl⟩ | ⟨a, n, r, s, a', n', r', s', rfl, rfl⟩ | ⟨a, a', rfl, rfl⟩ | ⟨rfl, rfl⟩
  · cases hx; cases hy
    constructor <;> (simp only [Go.binOp, Sem.run_bind, h1, Result.andThen_ok]; rfl)
  · cases hx <;> cases hy <;> (constructor <;> (simp only [Go.binOp, Sem.run_bind, h1, Result.andThen_ok]; rfl))
  · cases hx <;> cases hy <;> (constructor <;> (simp only [Go.binOp, Sem.run_bind, h1, Result.andThen_ok]; rfl))
  · cases hx; cases hy
    constructor <;> (simp only [Go.binOp, Sem.run_bind, h1, Result.andThen_ok]; rfl)
theorem binT_ok {op : BinOp} {t : TypeId} {x y v : AV} {xv yv : Value} (hx : VR φ w x xv) (hy : VR φ w y yv) (e : binT P op t x y = some v) :
    ∃ u, (Go.binOp op t xv yv).run P w = .ok u w ∧ VR φ w v u := by
  have I := fun f ho => bin_int (P := P) (w := w) (φ := φ) op t f ho hx hy (v := v)
  unfold binT at e
  split at e
  · unfold addA at e
    split at e
    · split at e
      · split at e
        · rename_i a b hl
          cases e; cases hx; cases hy
          refine ⟨_, ?_, .str _⟩
          have := notGreat _ hl
          simp only [Go.binOp, Op.stringOp, size_mk, this, if_false, append_mk]; rfl
        · cases e
      · cases e
    · exact I _ (fun k a b v e => by cases e; exact ⟨_, by simp [Go.binOp, Op.intArith], .int _ _⟩) e
  · exact I _ (fun k a b v e => by cases e; exact ⟨_, by simp [Go.binOp, Op.intArith], .int _ _⟩) e
  · exact I _ (fun k a b v e => by cases e; exact ⟨_, by simp [Go.binOp, Op.intArith], .int _ _⟩) e
  · refine I _ (fun k a b v e => ?_) e
    unfold quoI at e
    split at e
    · rename_i hb; cases e; exact ⟨_, by simp [Go.binOp, Op.intDiv, hb], .int _ _⟩
    · cases e
  · refine I _ (fun k a b v e => ?_) e
    unfold remI at e
    split at e
    · rename_i hb; cases e; exact ⟨_, by simp [Go.binOp, Op.intDiv, hb], .int _ _⟩
    · cases e
  · unfold eqlA at e
    split at e
    · exact I _ (fun k a b v e => by cases e; exact ⟨_, by simp [Go.binOp, Op.intCmp], .bool _⟩) e
    · split at e
      · cases e; cases hx; cases hy
        exact ⟨_, by simp only [Go.binOp, Op.stringOp, toList_mk]; rfl, .bool _⟩
      · cases e
    · simp only [Option.map_eq_some_iff] at e
      obtain ⟨b, e, rfl⟩ := e
      exact ⟨.bool b, (eqT_ok hx hy e).1, .bool _⟩
  · unfold neqA at e
    split at e
    · exact I _ (fun k a b v e => by cases e; exact ⟨_, by simp [Go.binOp, Op.intCmp], .bool _⟩) e
    · split at e
      · cases e; cases hx; cases hy
        exact ⟨_, by simp only [Go.binOp, Op.stringOp, toList_mk]; rfl, .bool _⟩
      · cases e
    · simp only [Option.map_eq_some_iff] at e
      obtain ⟨b, e, rfl⟩ := e
      exact ⟨.bool (!b), (eqT_ok hx hy e).2, .bool _⟩
  · exact I _ (fun k a b v e => by cases e; exact ⟨_, by simp [Go.binOp, Op.intCmp], .bool _⟩) e
  · exact I _ (fun k a b v e => by cases e; exact ⟨_, by simp [Go.binOp, Op.intCmp], .bool _⟩) e
  · exact I _ (fun k a b v e => by cases e; exact ⟨_, by simp [Go.binOp, Op.intCmp], .bool _⟩) e
  · exact I _ (fun k a b v e => by cases e; exact ⟨_, by simp [Go.binOp, Op.intCmp], .bool _⟩) e
  · cases e
end Go.Vai
/- The abstract machine: operations that only compute, continued: slices, places, fields, iterators. -/
namespace Go.Vai
set_option linter.unusedVariables false
set_option linter.unusedSimpArgs false
set_option linter.unusedSectionVars false
variable [Lane]
variable {P : Program} {base : Nat} {φ φ' φ'' : Emb} {h h' h'' : Heap} {w w' w'' : World}

theorem unA_ok {op : UnOp} {x v : AV} {xv : Value} (hx : VR φ w x xv) (e : unA op x = some v) : ∃ u, (Op.unary op xv).run P w = .ok u w ∧ VR φ w v u := by
  unfold unA at e
  split at e
  · split at e
    · cases e; cases hx; exact ⟨_, rfl, .bool _⟩
    · cases e
  · split at e
    · cases e; cases hx; exact ⟨_, rfl, .int _ _⟩
    · cases e
  · cases e
theorem boundA_ok {top k : Nat} {x : AV} {xv : Value} (hx : VR φ w x xv) (e : boundA top x = some k) (c : BoundsCode) : (Instr.sliceBound xv top c).run P w = .ok k w ∧ k ≤ top := by
  unfold boundA at e
  split at e
  · split at e
    · rename_i i hi
      cases e; cases hx
      refine ⟨?_, by omega⟩
      simp [Instr.sliceBound, asIntOf, hi]
    · cases e
  · cases e
/-- a bound that may be left out -/
inductive OptR (φ : Emb) (w : World) : Option AV → Option Value → Prop where
  | none : OptR φ w none none
  | some {x : AV} {v : Value} (h : VR φ w x v) : OptR φ w (some x) (some v)
theorem bounds_ok {isSlice : Bool} {len cap top h' k : Nat} {lo hi : Option AV} {lov hiv : Option Value} (hlo : OptR φ w lo lov) (hhi : OptR φ w hi hiv) (htop : top ≤ cap) (hlen : len ≤ top)
    (e1 : hiA top len hi = some h') (e2 : hiA h' 0 lo = some k) : (Instr.sliceBounds isSlice len cap lov hiv none).run P w = .ok (k, h', cap) w ∧ k ≤ h' ∧ h' ≤ top := by
  have b1 : (match hiv with | some v => Instr.sliceBound v cap (if isSlice then .sliceAcap else .sliceAlen) | none => pure len : Sem Nat).run P w = .ok h' w ∧ h' ≤ top := by
    cases hhi with
    | none => simp only [hiA, Option.some.injEq] at e1; subst e1; exact ⟨rfl, hlen⟩
    | some hx =>
      simp only [hiA] at e1
      unfold boundA at e1
      split at e1
      · split at e1
        · rename_i i hi
          cases e1; cases hx
          refine ⟨?_, by omega⟩
          have : 0 ≤ i ∧ i ≤ (cap : Int) := by omega
          simp [Instr.sliceBound, asIntOf, this]
        · cases e1
      · cases e1
  have b2 : (match lov with | some v => Instr.sliceBound v h' .sliceB | none => pure 0 : Sem Nat).run P w = .ok k w ∧ k ≤ h' := by
    cases hlo with
    | none => simp only [hiA, Option.some.injEq] at e2; subst e2; exact ⟨rfl, Nat.zero_le _⟩
    | some hx => exact boundA_ok hx e2 _
  refine ⟨?_, b2.2, b1.2⟩
  unfold Instr.sliceBounds
  cases hhi <;> cases hlo <;> simp_all
theorem extract_mk (l : List UInt8) (a b : Nat) : (⟨⟨l⟩⟩ : ByteArray).extract a b = ⟨⟨(l.drop a).take (b - a)⟩⟩ := by
  apply ByteArray.ext
  apply Array.ext'
  exact Lib.extract_data _ a b
theorem LR.shift {a : Loc} {ad : Addr} (k : LR φ a ad) (n : Nat) : LR φ { a with i := a.i + n } (ad.add n) := by
  obtain ⟨c, h1, h2, h3, rfl⟩ := k
  refine ⟨c, h1, h2, by simp only; omega, ?_⟩
  rw [add_plain]
  congr 1
  simp only; omega
theorem LR.add_off {a : Loc} {ad : Addr} (k : LR φ a ad) (n : Nat) : (ad.add n).block = ad.block ∧ (ad.add n).off = ad.off + n := by
  obtain ⟨c, h1, h2, h3, rfl⟩ := k
  rw [add_plain]; exact ⟨rfl, rfl⟩
theorem sliceA_ok {t : TypeId} {x v : AV} {xv : Value} {lo hi : Option AV} {lov hiv : Option Value} (hx : VR φ w x xv) (hlo : OptR φ w lo lov) (hhi : OptR φ w hi hiv) (e : sliceA P t x lo hi = some v) :
    ∃ u, (Instr.sliceAt t xv lov hiv none).run P w = .ok u w ∧ VR φ w v u := by
  unfold sliceA at e
  split at e
  · rename_i hu
    split at e
    · rename_i l
      simp only [Option.bind_eq_some_iff, Option.some.injEq] at e
      obtain ⟨h', e1, k, e2, rfl⟩ := e
      cases hx
      obtain ⟨r1, r2, r3⟩ := bounds_ok (P := P) (isSlice := false) hlo hhi (Nat.le_refl l.length) (Nat.le_refl l.length) e1 e2
      refine ⟨_, ?_, .str _⟩
      unfold Instr.sliceAt
      simp only [Sem.run_bind, run_underlying hu, Result.andThen_ok]
      unfold Instr.slice
      simp only [Sem.run_bind, run_underlying hu, Result.andThen_ok, Option.isSome_none, Bool.false_eq_true, if_false, size_mk, r1, extract_mk, Sem.run_pure]
    · cases e
  · rename_i el hu
    split at e
    · simp only [Option.bind_eq_some_iff] at e
      obtain ⟨h', e1, k, e2, esz⟩ := e
      cases hx
      obtain ⟨r1, r2, r3⟩ := bounds_ok (P := P) (isSlice := true) hlo hhi (Nat.le_refl 0) (Nat.le_refl 0) e1 e2
      obtain rfl : h' = 0 := by omega
      obtain rfl : k = 0 := by omega
      obtain ⟨n, hn, esz⟩ := esz
      cases esz
      refine ⟨.slice none 0 0, ?_, .nilSlice⟩
      unfold Instr.sliceAt
      simp only [Sem.run_bind, run_underlying hu, Result.andThen_ok]
      unfold Instr.slice
      simp only [Sem.run_bind, run_underlying hu, Result.andThen_ok, r1, run_sizeT hn, Sem.run_pure]
      rfl
    · rename_i a len room sz
      simp only [Option.bind_eq_some_iff] at e
      obtain ⟨n, hn, e⟩ := e
      split at e
      case isFalse => cases e
      rename_i hnz
      subst hnz
      simp only [Option.bind_eq_some_iff, Option.some.injEq] at e
      obtain ⟨h', e1, k, e2, rfl⟩ := e
      cases hx with
      | slice _ ad _ _ _ cap hn' hr hz he hh =>
      obtain ⟨r1, r2, r3⟩ := bounds_ok (P := P) (isSlice := true) hlo hhi hr hn' e1 e2
      refine ⟨.slice (some (if cap = k then ad else ad.add (k * n))) (h' - k) (cap - k), ?_, ?_⟩
      · unfold Instr.sliceAt
        simp only [Sem.run_bind, run_underlying hu, Result.andThen_ok]
        unfold Instr.slice
        simp only [Sem.run_bind, run_underlying hu, Result.andThen_ok, r1, run_sizeT hn, Sem.run_pure]
        split <;> rfl
      · have hle : a.i + k * n + (room - k) * n ≤ a.e := by
          have : k * n + (room - k) * n = room * n := by rw [← Nat.add_mul]; congr 1; omega
          omega
        refine .slice _ _ _ _ _ _ (by omega) (by omega) hz hle ?_
        rcases hh with hh | ⟨h1, h2⟩
        · exact .inl (by omega)
        · by_cases hk : cap = k
          · exact .inl (by omega)
          · rw [if_neg hk]
            right
            refine ⟨h1.shift _, ?_⟩
            obtain ⟨o1, o2⟩ := h1.add_off (k * n)
            rw [o1, o2]
            obtain ⟨arr, t', fz, p1, p2, p3⟩ := h2
            refine ⟨arr, t', fz, p1, ?_, p3⟩
            have : k * n + (cap - k) * n = cap * n := by rw [← Nat.add_mul]; congr 1; omega
            omega
    · cases e
  · cases e

theorem atA_ok {a : Loc} {ad : Addr} {len n : Nat} {i : Int} {v : AV} (e : atA a len n i = some v) : (0 ≤ i ∧ i < (len : Int)) ∧ v = .ptr (some { a with i := a.i + i.toNat * n }) := by
  unfold atA at e
  split at e
  · rename_i hc; cases e; exact ⟨hc, rfl⟩
  · cases e
theorem indexAddrA_ok {t : TypeId} {x ix v : AV} {xv iv : Value} (hx : VR φ w x xv) (hi : VR φ w ix iv) (e : indexAddrA P t x ix = some v) :
    ∃ u, (Instr.indexAt t xv iv).run P w = .ok u w ∧ VR φ w v u := by
  unfold indexAddrA at e
  split at e
  case h_2 => cases e
  rename_i k i
  cases hi
  have r0 : (asIntOf (.int k i)).run P w = .ok (k, i) w := rfl
  split at e
  · rename_i el hu
    split at e
    case h_2 => cases e
    rename_i a len room sz
    simp only [Option.bind_eq_some_iff] at e
    obtain ⟨n, hn, e⟩ := e
    split at e
    case isFalse => cases e
    rename_i hnz
    subst hnz
    obtain ⟨hc, rfl⟩ := atA_ok (ad := ⟨0, 0, none⟩) e
    cases hx with
    | slice _ ad _ _ _ cap hn' hr hz he hh =>
    rcases hh with hh | ⟨h1, h2⟩
    · exfalso; omega
    · refine ⟨_, ?_, .ptr _ _ (h1.shift (i.toNat * n))⟩
      unfold Instr.indexAt
      simp only [Sem.run_bind, r0, run_underlying hu, Result.andThen_ok, Sem.run_pure, hc, and_self, if_true, run_sizeT hn]
  · rename_i len el hu
    split at e
    case h_2 => cases e
    rename_i a
    simp only [Option.bind_eq_some_iff] at e
    obtain ⟨n, hn, e⟩ := e
    obtain ⟨hc, rfl⟩ := atA_ok (ad := ⟨0, 0, none⟩) e
    cases hx with
    | ptr _ ad h1 =>
    have r1 : (Instr.sureAddr (.pointer (some ad))).run P w = .ok ad w := rfl
    refine ⟨_, ?_, .ptr _ _ (h1.shift (i.toNat * n))⟩
    unfold Instr.indexAt
    simp only [Sem.run_bind, r0, r1, run_underlying hu, Result.andThen_ok, Sem.run_pure, hc, and_self, if_true, run_sizeT hn]
  · cases e
theorem indexA_ok {t : TypeId} {x ix v : AV} {xv iv : Value} (hx : VR φ w x xv) (hi : VR φ w ix iv) (e : indexA P t x ix = some v) :
    ∃ u, (Instr.index t xv iv).run P w = .ok u w ∧ VR φ w v u := by
  unfold indexA at e
  split at e
  · rename_i l k i hu
    split at e
    · rename_i h0
      simp only [Option.map_eq_some_iff] at e
      obtain ⟨c, hc, rfl⟩ := e
      cases hx; cases hi
      refine ⟨_, ?_, .int _ _⟩
      have r0 : (asIntOf (.int k i)).run P w = .ok (k, i) w := rfl
      have hb : (⟨⟨l⟩⟩ : ByteArray)[i.toNat]? = some c := by
        have hlt : i.toNat < l.length := (List.getElem?_eq_some_iff.mp hc).1
        rw [getElem?_pos _ _ (by exact hlt)]
        have := (List.getElem?_eq_some_iff.mp hc).2
        rw [← this]; rfl
      unfold Instr.index
      simp only [Sem.run_bind, r0, run_underlying hu, Result.andThen_ok, h0, if_true, hb, Sem.run_pure]
    · cases e
  · cases e
theorem fieldAddrA_ok {t : TypeId} {x v : AV} {xv : Value} {f : Nat} (hx : VR φ w x xv) (e : fieldAddrA P t x f = some v) :
    ∃ u, (Instr.fieldAt t xv f).run P w = .ok u w ∧ VR φ w v u := by
  unfold fieldAddrA at e
  split at e
  · rename_i fs a hu
    simp only [Option.bind_eq_some_iff] at e
    obtain ⟨fd, hf, n, hn, e⟩ := e
    split at e
    case isFalse => cases e
    rename_i h0
    cases e
    cases hx with
    | ptr _ ad h1 =>
    have r1 : (Instr.sureAddr (.pointer (some ad))).run P w = .ok ad w := rfl
    refine ⟨_, ?_, .ptr _ _ (h1.shift fd.offset)⟩
    unfold Instr.fieldAt fieldPlace
    simp only [Sem.run_bind, run_underlying hu, Result.andThen_ok, hf, r1, run_sizeT hn, h0, if_false, Sem.run_pure]
  · cases e
theorem fieldA_ok {t : TypeId} {x v : AV} {xv : Value} {f : Nat} (hx : VR φ w x xv) (e : fieldA P t x f = some v) :
    ∃ u, (Instr.field t xv f).run P w = .ok u w ∧ VR φ w v u := by
  unfold fieldA at e
  split at e
  · rename_i fs cs hu
    simp only [Option.bind_eq_some_iff] at e
    obtain ⟨fd, hf, g, hg, e⟩ := e
    cases hx with
    | agg _ vs hvs =>
    have r1 : (asAgg (.agg ⟨vs⟩)).run P w = .ok ⟨vs⟩ w := rfl
    cases g with
    | true =>
      simp only [if_true, Option.map_eq_some_iff] at e
      obtain ⟨n, hn, rfl⟩ := e
      refine ⟨.agg ⟨(vs.drop fd.offset).take n⟩, ?_, .agg _ _ ((hvs.drop _).take _)⟩
      unfold Instr.field part
      simp only [Sem.run_bind, run_underlying hu, Result.andThen_ok, hf, r1, run_isAggT hg, if_true, run_sizeT hn, Sem.run_pure]
      congr 2
      simp
    | false =>
      simp only [Bool.false_eq_true, if_false] at e
      obtain ⟨u, h1, h2⟩ := hvs.get _ _ e
      refine ⟨u, ?_, h2⟩
      unfold Instr.field part
      simp only [Sem.run_bind, run_underlying hu, Result.andThen_ok, hf, r1, run_isAggT hg, Bool.false_eq_true, if_false]
      have : (⟨vs⟩ : Array Value)[fd.offset]? = some u := by simpa using h1
      rw [this]; rfl
  · cases e
end Go.Vai
