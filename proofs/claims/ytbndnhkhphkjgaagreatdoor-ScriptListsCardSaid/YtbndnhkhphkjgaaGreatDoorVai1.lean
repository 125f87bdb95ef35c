/- An abstract machine over the model's own code: one order, no tape, memory that tells when a value hangs on what Go leaves open. Definitions alone. -/
import GoSem.Claim
import GoSem.Core.Utf8
import Derived.Calls
import Derived.Orders
import Derived.Laws.Sem
namespace Go.Vai
set_option linter.unusedVariables false

/-- a term that is kept under a lid: it is turned into a function once -/
structure Box (β : Type) where
  f : β
structure N16 (β : Type) where
  c0 : β
  c1 : β
  c2 : β
  c3 : β
  c4 : β
  c5 : β
  c6 : β
  c7 : β
  c8 : β
  c9 : β
  c10 : β
  c11 : β
  c12 : β
  c13 : β
  c14 : β
  c15 : β
/-- a finite map from numbers: sixteen ways at each place -/
inductive Tr (α : Type) where
  | nil
  | node (v : Option α) (c : N16 (Tr α))
namespace Tr
variable {α : Type}
def rootB : Box (Tr α → Option α) := ⟨fun t => Tr.casesOn (motive_1 := fun _ => Option α) t none fun v _ => v⟩
def chB (d : Nat) : Box (Tr α → Tr α) :=
  match d with
  | 0 => ⟨fun t => Tr.casesOn (motive_1 := fun _ => Tr α) t .nil fun _ c => c.c0⟩
  | 1 => ⟨fun t => Tr.casesOn (motive_1 := fun _ => Tr α) t .nil fun _ c => c.c1⟩
  | 2 => ⟨fun t => Tr.casesOn (motive_1 := fun _ => Tr α) t .nil fun _ c => c.c2⟩
  | 3 => ⟨fun t => Tr.casesOn (motive_1 := fun _ => Tr α) t .nil fun _ c => c.c3⟩
  | 4 => ⟨fun t => Tr.casesOn (motive_1 := fun _ => Tr α) t .nil fun _ c => c.c4⟩
  | 5 => ⟨fun t => Tr.casesOn (motive_1 := fun _ => Tr α) t .nil fun _ c => c.c5⟩
  | 6 => ⟨fun t => Tr.casesOn (motive_1 := fun _ => Tr α) t .nil fun _ c => c.c6⟩
  | 7 => ⟨fun t => Tr.casesOn (motive_1 := fun _ => Tr α) t .nil fun _ c => c.c7⟩
  | 8 => ⟨fun t => Tr.casesOn (motive_1 := fun _ => Tr α) t .nil fun _ c => c.c8⟩
  | 9 => ⟨fun t => Tr.casesOn (motive_1 := fun _ => Tr α) t .nil fun _ c => c.c9⟩
  | 10 => ⟨fun t => Tr.casesOn (motive_1 := fun _ => Tr α) t .nil fun _ c => c.c10⟩
  | 11 => ⟨fun t => Tr.casesOn (motive_1 := fun _ => Tr α) t .nil fun _ c => c.c11⟩
  | 12 => ⟨fun t => Tr.casesOn (motive_1 := fun _ => Tr α) t .nil fun _ c => c.c12⟩
  | 13 => ⟨fun t => Tr.casesOn (motive_1 := fun _ => Tr α) t .nil fun _ c => c.c13⟩
  | 14 => ⟨fun t => Tr.casesOn (motive_1 := fun _ => Tr α) t .nil fun _ c => c.c14⟩
  | _ => ⟨fun t => Tr.casesOn (motive_1 := fun _ => Tr α) t .nil fun _ c => c.c15⟩
def setB (d : Nat) : Box (Tr α → (Tr α → Tr α) → Tr α) :=
  match d with
  | 0 => ⟨fun t g => Tr.casesOn (motive_1 := fun _ => Tr α) t (.node none (.mk (g .nil) .nil .nil .nil .nil .nil .nil .nil .nil .nil .nil .nil .nil .nil .nil .nil)) fun v c => N16.casesOn (motive := fun _ => Tr α) c fun c0 c1 c2 c3 c4 c5 c6 c7 c8 c9 c10 c11 c12 c13 c14 c15 => .node v (.mk (g c0) c1 c2 c3 c4 c5 c6 c7 c8 c9 c10 c11 c12 c13 c14 c15)⟩
  | 1 => ⟨fun t g => Tr.casesOn (motive_1 := fun _ => Tr α) t (.node none (.mk .nil (g .nil) .nil .nil .nil .nil .nil .nil .nil .nil .nil .nil .nil .nil .nil .nil)) fun v c => N16.casesOn (motive := fun _ => Tr α) c fun c0 c1 c2 c3 c4 c5 c6 c7 c8 c9 c10 c11 c12 c13 c14 c15 => .node v (.mk c0 (g c1) c2 c3 c4 c5 c6 c7 c8 c9 c10 c11 c12 c13 c14 c15)⟩
  | 2 => ⟨fun t g => Tr.casesOn (motive_1 := fun _ => Tr α) t (.node none (.mk .nil .nil (g .nil) .nil .nil .nil .nil .nil .nil .nil .nil .nil .nil .nil .nil .nil)) fun v c => N16.casesOn (motive := fun _ => Tr α) c fun c0 c1 c2 c3 c4 c5 c6 c7 c8 c9 c10 c11 c12 c13 c14 c15 => .node v (.mk c0 c1 (g c2) c3 c4 c5 c6 c7 c8 c9 c10 c11 c12 c13 c14 c15)⟩
  | 3 => ⟨fun t g => Tr.casesOn (motive_1 := fun _ => Tr α) t (.node none (.mk .nil .nil .nil (g .nil) .nil .nil .nil .nil .nil .nil .nil .nil .nil .nil .nil .nil)) fun v c => N16.casesOn (motive := fun _ => Tr α) c fun c0 c1 c2 c3 c4 c5 c6 c7 c8 c9 c10 c11 c12 c13 c14 c15 => .node v (.mk c0 c1 c2 (g c3) c4 c5 c6 c7 c8 c9 c10 c11 c12 c13 c14 c15)⟩
  | 4 => ⟨fun t g => Tr.casesOn (motive_1 := fun _ => Tr α) t (.node none (.mk .nil .nil .nil .nil (g .nil) .nil .nil .nil .nil .nil .nil .nil .nil .nil .nil .nil)) fun v c => N16.casesOn (motive := fun _ => Tr α) c fun c0 c1 c2 c3 c4 c5 c6 c7 c8 c9 c10 c11 c12 c13 c14 c15 => .node v (.mk c0 c1 c2 c3 (g c4) c5 c6 c7 c8 c9 c10 c11 c12 c13 c14 c15)⟩
  | 5 => ⟨fun t g => Tr.casesOn (motive_1 := fun _ => Tr α) t (.node none (.mk .nil .nil .nil .nil .nil (g .nil) .nil .nil .nil .nil .nil .nil .nil .nil .nil .nil)) fun v c => N16.casesOn (motive := fun _ => Tr α) c fun c0 c1 c2 c3 c4 c5 c6 c7 c8 c9 c10 c11 c12 c13 c14 c15 => .node v (.mk c0 c1 c2 c3 c4 (g c5) c6 c7 c8 c9 c10 c11 c12 c13 c14 c15)⟩
  | 6 => ⟨fun t g => Tr.casesOn (motive_1 := fun _ => Tr α) t (.node none (.mk .nil .nil .nil .nil .nil .nil (g .nil) .nil .nil .nil .nil .nil .nil .nil .nil .nil)) fun v c => N16.casesOn (motive := fun _ => Tr α) c fun c0 c1 c2 c3 c4 c5 c6 c7 c8 c9 c10 c11 c12 c13 c14 c15 => .node v (.mk c0 c1 c2 c3 c4 c5 (g c6) c7 c8 c9 c10 c11 c12 c13 c14 c15)⟩
  | 7 => ⟨fun t g => Tr.casesOn (motive_1 := fun _ => Tr α) t (.node none (.mk .nil .nil .nil .nil .nil .nil .nil (g .nil) .nil .nil .nil .nil .nil .nil .nil .nil)) fun v c => N16.casesOn (motive := fun _ => Tr α) c fun c0 c1 c2 c3 c4 c5 c6 c7 c8 c9 c10 c11 c12 c13 c14 c15 => .node v (.mk c0 c1 c2 c3 c4 c5 c6 (g c7) c8 c9 c10 c11 c12 c13 c14 c15)⟩
  | 8 => ⟨fun t g => Tr.casesOn (motive_1 := fun _ => Tr α) t (.node none (.mk .nil .nil .nil .nil .nil .nil .nil .nil (g .nil) .nil .nil .nil .nil .nil .nil .nil)) fun v c => N16.casesOn (motive := fun _ => Tr α) c fun c0 c1 c2 c3 c4 c5 c6 c7 c8 c9 c10 c11 c12 c13 c14 c15 => .node v (.mk c0 c1 c2 c3 c4 c5 c6 c7 (g c8) c9 c10 c11 c12 c13 c14 c15)⟩
  | 9 => ⟨fun t g => Tr.casesOn (motive_1 := fun _ => Tr α) t (.node none (.mk .nil .nil .nil .nil .nil .nil .nil .nil .nil (g .nil) .nil .nil .nil .nil .nil .nil)) fun v c => N16.casesOn (motive := fun _ => Tr α) c fun c0 c1 c2 c3 c4 c5 c6 c7 c8 c9 c10 c11 c12 c13 c14 c15 => .node v (.mk c0 c1 c2 c3 c4 c5 c6 c7 c8 (g c9) c10 c11 c12 c13 c14 c15)⟩
  | 10 => ⟨fun t g => Tr.casesOn (motive_1 := fun _ => Tr α) t (.node none (.mk .nil .nil .nil .nil .nil .nil .nil .nil .nil .nil (g .nil) .nil .nil .nil .nil .nil)) fun v c => N16.casesOn (motive := fun _ => Tr α) c fun c0 c1 c2 c3 c4 c5 c6 c7 c8 c9 c10 c11 c12 c13 c14 c15 => .node v (.mk c0 c1 c2 c3 c4 c5 c6 c7 c8 c9 (g c10) c11 c12 c13 c14 c15)⟩
  | 11 => ⟨fun t g => Tr.casesOn (motive_1 := fun _ => Tr α) t (.node none (.mk .nil .nil .nil .nil .nil .nil .nil .nil .nil .nil .nil (g .nil) .nil .nil .nil .nil)) fun v c => N16.casesOn (motive := fun _ => Tr α) c fun c0 c1 c2 c3 c4 c5 c6 c7 c8 c9 c10 c11 c12 c13 c14 c15 => .node v (.mk c0 c1 c2 c3 c4 c5 c6 c7 c8 c9 c10 (g c11) c12 c13 c14 c15)⟩
  | 12 => ⟨fun t g => Tr.casesOn (motive_1 := fun _ => Tr α) t (.node none (.mk .nil .nil .nil .nil .nil .nil .nil .nil .nil .nil .nil .nil (g .nil) .nil .nil .nil)) fun v c => N16.casesOn (motive := fun _ => Tr α) c fun c0 c1 c2 c3 c4 c5 c6 c7 c8 c9 c10 c11 c12 c13 c14 c15 => .node v (.mk c0 c1 c2 c3 c4 c5 c6 c7 c8 c9 c10 c11 (g c12) c13 c14 c15)⟩
  | 13 => ⟨fun t g => Tr.casesOn (motive_1 := fun _ => Tr α) t (.node none (.mk .nil .nil .nil .nil .nil .nil .nil .nil .nil .nil .nil .nil .nil (g .nil) .nil .nil)) fun v c => N16.casesOn (motive := fun _ => Tr α) c fun c0 c1 c2 c3 c4 c5 c6 c7 c8 c9 c10 c11 c12 c13 c14 c15 => .node v (.mk c0 c1 c2 c3 c4 c5 c6 c7 c8 c9 c10 c11 c12 (g c13) c14 c15)⟩
  | 14 => ⟨fun t g => Tr.casesOn (motive_1 := fun _ => Tr α) t (.node none (.mk .nil .nil .nil .nil .nil .nil .nil .nil .nil .nil .nil .nil .nil .nil (g .nil) .nil)) fun v c => N16.casesOn (motive := fun _ => Tr α) c fun c0 c1 c2 c3 c4 c5 c6 c7 c8 c9 c10 c11 c12 c13 c14 c15 => .node v (.mk c0 c1 c2 c3 c4 c5 c6 c7 c8 c9 c10 c11 c12 c13 (g c14) c15)⟩
  | _ => ⟨fun t g => Tr.casesOn (motive_1 := fun _ => Tr α) t (.node none (.mk .nil .nil .nil .nil .nil .nil .nil .nil .nil .nil .nil .nil .nil .nil .nil (g .nil))) fun v c => N16.casesOn (motive := fun _ => Tr α) c fun c0 c1 c2 c3 c4 c5 c6 c7 c8 c9 c10 c11 c12 c13 c14 c15 => .node v (.mk c0 c1 c2 c3 c4 c5 c6 c7 c8 c9 c10 c11 c12 c13 c14 (g c15))⟩
def getB : Nat → Nat → Box (Tr α → Option α)
  | 0, _ => ⟨fun _ => none⟩
  | n + 1, k => cond (Nat.beq k 0) rootB ⟨fun t => (getB n ((k - 1) / 16)).f ((chB ((k - 1) % 16)).f t)⟩
def topB : Box (α → Tr α → Tr α) := ⟨fun x t => Tr.casesOn (motive_1 := fun _ => Tr α) t (.node (some x) (.mk .nil .nil .nil .nil .nil .nil .nil .nil .nil .nil .nil .nil .nil .nil .nil .nil)) fun _ c => .node (some x) c⟩
def putB : Nat → Nat → Box (α → Tr α → Tr α)
  | 0, _ => ⟨fun _ t => t⟩
  | n + 1, k => cond (Nat.beq k 0) topB ⟨fun x t => (setB ((k - 1) % 16)).f t ((putB n ((k - 1) / 16)).f x)⟩
def get (t : Tr α) (k : Nat) : Option α := (getB 44 k).f t
def put (t : Tr α) (k : Nat) (x : α) : Tr α := (putB 44 k).f x t
def set (t : Tr α) (k : Nat) (x : α) : Option (Tr α) := cond (Nat.blt k 1099511627776) (some ((putB 44 k).f x t)) none
def map {β : Type} (f : α → β) : Tr α → Tr β
  | .nil => .nil
  | .node v ⟨c0, c1, c2, c3, c4, c5, c6, c7, c8, c9, c10, c11, c12, c13, c14, c15⟩ => .node (v.map f) ⟨map f c0, map f c1, map f c2, map f c3, map f c4, map f c5, map f c6, map f c7, map f c8, map f c9, map f c10, map f c11, map f c12, map f c13, map f c14, map f c15⟩
end Tr

/-- a place in memory: block, generation, index, end of the generation's row -/
structure Loc where
  b : Nat
  g : Nat
  i : Nat
  e : Nat
  deriving DecidableEq
inductive AV where
  | u
  | bool (x : Bool)
  | int (k : IntKind) (x : Int)
  | str (l : List UInt8)
  | ptr (a : Option Loc)
  | slice (a : Option Loc) (len room sz : Nat)
  | map (r : Option Nat)
  | func (f : Nat) (caps : List AV)
  | nilf
  | nilI
  | any
  | agg (cs : List AV)
  | tup (vs : List AV)
  | vec (l : List AV)
  | arg (i : Nat)
  | yld (b : Nat)
  deriving Inhabited
def LANES : Nat := 8
/-- which of a few runs that go alike is meant: a value may be told for each of them -/
class Lane where
  l : Nat
  arg : Nat → Int
  lt : l < LANES
  stat : List (Nat × Obj) := []
inductive AObj where
  | cells (ro : Bool) (gen : Nat) (cs : Tr (Nat × AV))
  | iter (s : List UInt8) (pos : Nat)
  | viter (ss : List AV) (pos : Nat)
  | map (es : List (AV × AV))
  | mapit (m n : Nat) (cur : Option Nat)
  | miter (m n : Nat) (seen : Bool)
structure Heap where
  next : Nat
  objs : Tr AObj
abbrev Fr := Tr AV
structure St where
  fr : Fr
  h : Heap

def oneCell : AV → Bool
  | .agg _ | .tup _ | .u | .arg _ | .yld _ => false
  | _ => true
/-- what may stand in a lane -/
def lane1 : AV → Bool
  | .bool _ | .int _ _ | .str _ | .ptr (some _) => true
  | _ => false
def same0 (x y : AV) : Bool :=
  match x with
  | .bool a => (match y with | .bool b => a == b | _ => false)
  | .int k a => (match y with | .int k' b => decide (k = k') && a == b | _ => false)
  | .str a => (match y with | .str b => a == b | _ => false)
  | .ptr a => (match y with | .ptr b => decide (a = b) | _ => false)
  | _ => false
def same0L : List AV → List AV → Bool
  | [], [] => true
  | x :: l, y :: m => same0 x y && same0L l m
  | _, _ => false
def same1 (x y : AV) : Bool :=
  match x with
  | .vec l => (match y with | .vec m => same0L l m | _ => false)
  | .u => (match y with | .u => true | _ => false)
  | .bool a => (match y with | .bool b => a == b | _ => false)
  | .int k a => (match y with | .int k' b => decide (k = k') && a == b | _ => false)
  | .str a => (match y with | .str b => a == b | _ => false)
  | .ptr a => (match y with | .ptr b => decide (a = b) | _ => false)
  | .slice a n r s => (match y with | .slice b n' r' s' => decide (a = b) && n == n' && r == r' && s == s' | _ => false)
  | .map a => (match y with | .map b => a == b | _ => false)
  | .nilf => (match y with | .nilf => true | _ => false)
  | .nilI => (match y with | .nilI => true | _ => false)
  | .arg i => (match y with | .arg j => Nat.beq i j | _ => false)
  | _ => false
def sameL : List AV → List AV → Bool
  | [], [] => true
  | x :: l, y :: m => same1 x y && sameL l m
  | _, _ => false
def sameV (x y : AV) : Bool :=
  match x with
  | .agg l => (match y with | .agg m => sameL l m | _ => false)
  | .tup l => (match y with | .tup m => sameL l m | _ => false)
  | x => same1 x y
/-- what runs that go alike came to -/
def collapse : List AV → Option AV
  | [] => none
  | x :: r => bif r.all (sameV x) then some x else (bif (x :: r).all lane1 then some (.vec (x :: r)) else none)
/-- a value in one lane -/
def atL (j : Nat) : AV → AV
  | .vec l => l.getD j .any
  | x => x
def atV (j : Nat) : AV → AV
  | .agg cs => .agg (cs.map (atL j))
  | .tup cs => .tup (cs.map (atL j))
  | .func f cs => .func f (cs.map (atL j))
  | x => atL j x
def atC (j : Nat) (c : Nat × AV) : Nat × AV := (c.1, atL j c.2)
def projO (j : Nat) : AObj → AObj
  | .cells ro gen cs => .cells ro gen (cs.map (atC j))
  | x => x
def projH (j : Nat) (h : Heap) : Heap := ⟨h.next, h.objs.map (projO j)⟩
def ofV1 : Value → Option AV
  | .bool b => some (.bool b)
  | .int k n => some (.int k n)
  | .string s => some (.str s.data.toList)
  | .pointer none => some (.ptr none)
  | .slice none 0 0 => some (.slice none 0 0 0)
  | .map none => some (.map none)
  | .nilFunc => some .nilf
  | .nilIface => some .nilI
  | _ => none
def mapO {α β : Type} (f : α → Option β) : List α → Option (List β)
  | [] => some []
  | x :: l => (f x).bind fun y => (mapO f l).bind fun r => some (y :: r)
def ofV : Value → Option AV
  | .agg cs => (mapO ofV1 cs.toList).map .agg
  | v => ofV1 v
/-- 'any' stands in a frame alone, for what is not known: it is never read -/
def liveV (v : AV) : Option AV :=
  match v with
  | .any => none
  | v => some v
def tmpV (fr : Fr) (t : Nat) : Option AV :=
  match fr.get t with
  | none => some .u
  | some v => liveV v
def evalO (glob : Nat → Option AV) (fr : Fr) : Operand → Option AV
  | .tmp t => tmpV fr t
  | .const v => ofV v
  | .global g => glob g
  | .func f => some (.func f [])
def cellsA : AV → List AV
  | .agg cs => cs
  | v => [v]

/-! memory -/
def loadC (h : Heap) (a : Loc) (j : Nat) : Option AV :=
  match h.objs.get a.b with
  | some (.cells _ _ cs) =>
    if a.i + j < a.e then
      match cs.get (a.i + j) with
      | some (lo, v) => if lo ≤ a.g then some v else none
      | none => none
    else none
  | _ => none
def loadN (h : Heap) (a : Loc) : (j n : Nat) → Option (List AV)
  | _, 0 => some []
  | j, n + 1 => (loadC h a j).bind fun v => (loadN h a (j + 1) n).bind fun r => some (v :: r)
def storeC (h : Heap) (a : Loc) (j : Nat) (v : AV) : Option Heap :=
  match h.objs.get a.b with
  | some (.cells false gen cs) =>
    if a.g = gen ∧ a.i + j < a.e ∧ oneCell v = true then
      match cs.get (a.i + j) with
      | some _ => (cs.set (a.i + j) (gen, v)).bind fun cs' => (h.objs.set a.b (.cells false gen cs')).bind fun o => some { h with objs := o }
      | none => none
    else none
  | _ => none
def storeN (h : Heap) (a : Loc) : (j : Nat) → List AV → Option Heap
  | _, [] => some h
  | j, v :: r => (storeC h a j v).bind fun h' => storeN h' a (j + 1) r
def fillTr (lo : Nat) : (cs : Tr (Nat × AV)) → (i : Nat) → List AV → Option (Tr (Nat × AV))
  | cs, _, [] => some cs
  | cs, i, v :: r => if oneCell v then (cs.set i (lo, v)).bind fun cs' => fillTr lo cs' (i + 1) r else none
/-- a new row: its block's number, the memory -/
def newRow (h : Heap) (vs : List AV) : Option (Nat × Heap) :=
  (fillTr 0 .nil 0 vs).bind fun cs => (h.objs.set h.next (.cells false 0 cs)).bind fun o => some (h.next, { next := h.next + 1, objs := o })
def newObj (h : Heap) (x : AObj) : Option (Nat × Heap) := (h.objs.set h.next x).bind fun o => some (h.next, { next := h.next + 1, objs := o })

section ops
variable (P : Program)
def isAggT (t : TypeId) : Option Bool :=
  match P.underlying t with
  | some (.struct _) | some (.array _ _) => some true
  | some _ => some false
  | none => none
def sizeT (t : TypeId) : Option Nat := (P.info? t).map (·.size)
def zeroT (t : TypeId) : Option AV := (P.info? t).bind fun i => i.zero.bind ofV
def loadV (h : Heap) (t : TypeId) : AV → Option AV
  | .ptr (some a) => (isAggT P t).bind fun g => if g then (sizeT P t).bind fun n => (loadN h a 0 n).map .agg else loadC h a 0
  | _ => none
def storeV (h : Heap) (t : TypeId) (p v : AV) : Option Heap :=
  match p with
  | .ptr (some a) => (sizeT P t).bind fun n => if (cellsA v).length = n then storeN h a 0 (cellsA v) else none
  | _ => none
def spread (cs : List AV) (off : Nat) (vs : List AV) : List AV := cs.take off ++ vs ++ cs.drop (off + vs.length)
def fillA (place : Nat → Option (Nat × Nat)) : List AV → List (Nat × AV) → Option (List AV)
  | cs, [] => some cs
  | cs, (i, v) :: rest => (place i).bind fun (off, size) => if (cellsA v).length = size ∧ off + size ≤ cs.length then fillA place (spread cs off (cellsA v)) rest else none
def placesT (t : TypeId) : Option (Nat → Option (Nat × Nat)) :=
  match P.underlying t with
  | some (.struct fs) => (mapO (fun (f : Field) => (sizeT P f.type).map fun n => (f.offset, n)) fs.toList).map fun l => fun i => l[i]?
  | some (.array _ e) => (sizeT P e).map fun n => fun i => some (i * n, n)
  | _ => none
def reps (zero : List AV) : Nat → List AV
  | 0 => []
  | n + 1 => zero ++ reps zero n
def knownInt : AV → Option (IntKind × Int)
  | .int k n => some (k, n)
  | _ => none
def int2 (f : IntKind → Int → Int → Option AV) (x y : AV) : Option AV :=
  match x with
  | .int k a => (match y with | .int k' b => if k = k' then f k a b else none | _ => none)
  | _ => none
def addI (k : IntKind) (a b : Int) : Option AV := some (.int k (k.wrap (a + b)))
def subI (k : IntKind) (a b : Int) : Option AV := some (.int k (k.wrap (a - b)))
def mulI (k : IntKind) (a b : Int) : Option AV := some (.int k (k.wrap (a * b)))
def quoI (k : IntKind) (a b : Int) : Option AV := if b ≠ 0 then some (.int k (k.wrap (a.tdiv b))) else none
def remI (k : IntKind) (a b : Int) : Option AV := if b ≠ 0 then some (.int k (a.tmod b)) else none
def eqlI (_ : IntKind) (a b : Int) : Option AV := some (.bool (a == b))
def neqI (_ : IntKind) (a b : Int) : Option AV := some (.bool (a != b))
def lssI (_ : IntKind) (a b : Int) : Option AV := some (.bool (decide (a < b)))
def leqI (_ : IntKind) (a b : Int) : Option AV := some (.bool (decide (a ≤ b)))
def gtrI (_ : IntKind) (a b : Int) : Option AV := some (.bool (decide (a > b)))
def geqI (_ : IntKind) (a b : Int) : Option AV := some (.bool (decide (a ≥ b)))
def addA (x y : AV) : Option AV :=
  match x with
  | .str a => (match y with | .str b => if a.length + b.length ≤ 1099511627776 then some (.str (a ++ b)) else none | _ => none)
  | _ => int2 addI x y
def partA (t : TypeId) (cs : List AV) (off : Nat) : Option AV :=
  (isAggT P t).bind fun g => if g then (sizeT P t).map fun n => .agg ((cs.drop off).take n) else cs[off]?
/-- comparisons that want the type, within structs -/
def eqFs (eq : TypeId → AV → AV → Option Bool) (xs ys : List AV) : List Field → Option Bool
  | [] => some true
  | f :: fs => if f.name = "_" then eqFs eq xs ys fs else (partA P f.type xs f.offset).bind fun a => (partA P f.type ys f.offset).bind fun b => (eq f.type a b).bind fun c => if c then eqFs eq xs ys fs else some false
def eqIn : Nat → TypeId → AV → AV → Option Bool
  | 0, _, _, _ => none
  | d + 1, t, x, y =>
    match P.underlying t with
    | some .bool => (match x with | .bool a => (match y with | .bool b => some (a == b) | _ => none) | _ => none)
    | some (.int _) => (match x with | .int k a => (match y with | .int k' b => if k = k' then some (a == b) else none | _ => none) | _ => none)
    | some .string => (match x with | .str a => (match y with | .str b => some (a == b) | _ => none) | _ => none)
    | some (.struct fs) => (match x with
      | .agg xs => (match y with
        | .agg ys => if P.stoodInHeld t then none else eqFs P (eqIn d) xs ys fs.toList
        | _ => none)
      | _ => none)
    | _ => none
/-- comparisons that want the type -/
def eqA (t : TypeId) (x y : AV) : Option Bool :=
  match P.underlying t, x, y with
  | some .bool, .bool a, .bool b => some (a == b)
  | some (.slice _), .slice a _ _ _, .slice none _ _ _ => some a.isNone
  | some (.slice _), .slice none _ _ _, .slice b _ _ _ => some b.isNone
  | some (.pointer _), .ptr none, .ptr b => some b.isNone
  | some (.pointer _), .ptr a, .ptr none => some a.isNone
  | some (.interface _), .nilI, .nilI => some true
  | _, _, _ => none
def eqlA (t : TypeId) (x y : AV) : Option AV :=
  match x with
  | .int _ _ => int2 eqlI x y
  | .str a => (match y with | .str b => some (.bool (a == b)) | _ => none)
  | _ => (eqA P t x y).map .bool
def neqA (t : TypeId) (x y : AV) : Option AV :=
  match x with
  | .int _ _ => int2 neqI x y
  | .str a => (match y with | .str b => some (.bool (!(a == b))) | _ => none)
  | _ => (eqA P t x y).map fun b => .bool (!b)
def noneB (_ : TypeId) (_ _ : AV) : Option AV := none
def binT (op : BinOp) (t : TypeId) (x y : AV) : Option AV :=
  match op with
  | .add => addA x y | .sub => int2 subI x y | .mul => int2 mulI x y | .quo => int2 quoI x y | .rem => int2 remI x y
  | .eql => eqlA P t x y | .neq => neqA P t x y | .lss => int2 lssI x y | .leq => int2 leqI x y | .gtr => int2 gtrI x y | .geq => int2 geqI x y
  | _ => none
def unA (op : UnOp) : AV → Option AV
  | .bool b => match op with | .not => some (.bool (!b)) | _ => none
  | .int k n => match op with | .neg => some (.int k (k.wrap (0 - n))) | _ => none
  | _ => none
def boundA (y : Nat) : AV → Option Nat
  | .int _ i => if 0 ≤ i ∧ i ≤ (y : Int) then some i.toNat else none
  | _ => none
def hiA (top dflt : Nat) : Option AV → Option Nat
  | some v => boundA top v
  | none => some dflt
/-- a slice expression with three numbers -/
def slice3A (t : TypeId) (x : AV) (lo : Option AV) (hi mx : AV) : Option AV :=
  match P.underlying t with
  | some (.slice e) =>
    (match x with
    | .slice (some a) len room sz => (sizeT P e).bind fun n =>
      if n = sz then (boundA room mx).bind fun m => (boundA m hi).bind fun h => (hiA h 0 lo).bind fun k => some (.slice (some { a with i := a.i + k * sz }) (h - k) (m - k) sz) else none
    | _ => none)
  | _ => none
def sliceA (t : TypeId) (x : AV) (lo hi : Option AV) : Option AV :=
  match P.underlying t with
  | some .string =>
    (match x with
    | .str l => (hiA l.length l.length hi).bind fun h => (hiA h 0 lo).bind fun k => some (.str ((l.drop k).take (h - k)))
    | _ => none)
  | some (.slice e) =>
    (match x with
    | .slice none _ _ _ => (hiA 0 0 hi).bind fun h => (hiA h 0 lo).bind fun _ => (sizeT P e).bind fun _ => some (.slice none 0 0 0)
    | .slice (some a) len room sz => (sizeT P e).bind fun n =>
      if n = sz then (hiA room len hi).bind fun h => (hiA h 0 lo).bind fun k => some (.slice (some { a with i := a.i + k * sz }) (h - k) (room - k) sz) else none
    | _ => none)
  | _ => none
def atA (a : Loc) (len n : Nat) (i : Int) : Option AV := if 0 ≤ i ∧ i < (len : Int) then some (.ptr (some { a with i := a.i + i.toNat * n })) else none
def indexAddrA (t : TypeId) (x ix : AV) : Option AV :=
  match ix with
  | .int _ i =>
    (match P.underlying t with
    | some (.slice e) => (match x with
      | .slice (some a) len _ sz => (sizeT P e).bind fun n => if n = sz then atA a len n i else none
      | _ => none)
    | some (.array len e) => (match x with
      | .ptr (some a) => (sizeT P e).bind fun n => atA a len n i
      | _ => none)
    | _ => none)
  | _ => none
def indexA (t : TypeId) (x ix : AV) : Option AV :=
  match P.underlying t, x, ix with
  | some .string, .str l, .int _ i => if 0 ≤ i then (l[i.toNat]?).map fun c => .int .u8 c.toNat else none
  | _, _, _ => none
def fieldAddrA (t : TypeId) (x : AV) (f : Nat) : Option AV :=
  match P.underlying t, x with
  | some (.struct fs), .ptr (some a) => (fs[f]?).bind fun f => (sizeT P f.type).bind fun n => if n ≠ 0 then some (.ptr (some { a with i := a.i + f.offset })) else none
  | _, _ => none
def fieldA (t : TypeId) (x : AV) (f : Nat) : Option AV :=
  match P.underlying t, x with
  | some (.struct fs), .agg cs => (fs[f]?).bind fun f => (isAggT P f.type).bind fun g => if g then (sizeT P f.type).map fun n => .agg ((cs.drop f.offset).take n) else cs[f.offset]?
  | _, _ => none
def strLen (n : Nat) : AV → Bool
  | .str l => Nat.beq l.length n
  | _ => false
def lenA : AV → Option Nat
  | .str l => some l.length
  | .slice _ n _ _ => some n
  | .vec (.str l :: r) => if r.all (strLen l.length) then some l.length else none
  | _ => none
def bytesA (l : List UInt8) : List AV := l.map fun c => .int .u8 c.toNat
/-- the bytes of texts that go side by side -/
def headS : AV → Option AV
  | .str (c :: _) => some (.int .u8 c.toNat)
  | _ => none
def tailS : AV → AV
  | .str (_ :: l) => .str l
  | x => x
def transB : Nat → List AV → Option (List AV)
  | 0, _ => some []
  | n + 1, ls => (mapO headS ls).bind fun cs => (collapse cs).bind fun c => (transB n (ls.map tailS)).map fun r => c :: r
/-- the first so many elements' cells of what an append or a copy brings -/
def srcCells (h : Heap) (size n : Nat) : AV → Option (List AV)
  | .str l => if size = 1 then some (bytesA (l.take n)) else none
  | .slice none _ _ _ => some []
  | .slice (some a) _ _ sz => if sz = size then loadN h a 0 (n * size) else none
  | .vec ls => if size = 1 then (lenA (.vec ls)).bind fun _ => transB n ls else none
  | _ => none
def growA (h : Heap) (a : Loc) (len n sz : Nat) (vs : List AV) : Option (AV × Heap) :=
  match h.objs.get a.b with
  | some (.cells false gen cs) =>
    if a.g = gen then
      (fillTr (gen + 1) cs (a.i + len * sz) vs).bind fun cs' => (h.objs.set a.b (.cells false (gen + 1) cs')).bind fun o =>
        some (.slice (some ⟨a.b, gen + 1, a.i, a.i + (len + n) * sz⟩) (len + n) (len + n) sz, { h with objs := o })
    else none
  | _ => none
def appendA (h : Heap) (t : TypeId) (s x : AV) : Option (AV × Heap) :=
  match P.underlying t with
  | some (.slice e) =>
    (match s with
    | .slice a len room sz =>
      (sizeT P e).bind fun size => (lenA x).bind fun n =>
        if n = 0 then some (.slice a len room sz, h)
        else if len + n ≤ 16777216 ∧ 0 < size ∧ ((P.info? e).all fun i => decide (i.bytes ≤ 65536)) = true ∧ ((zeroT P e).any fun z => decide ((cellsA z).length = size)) = true then
          (srcCells h size n x).bind fun vs =>
          match a with
          | none => (newRow h vs).bind fun r => some (.slice (some ⟨r.1, 0, 0, n * size⟩) n n size, r.2)
          | some a => if size = sz then
              (if len + n ≤ room then (storeN h { a with i := a.i + len * size } 0 vs).bind fun h' => some (.slice (some a) (len + n) room sz, h')
              else growA h a len n sz vs) else none
        else none
    | _ => none)
  | _ => none
def copyA (h : Heap) (t : TypeId) (d s : AV) : Option (AV × Heap) :=
  match P.underlying t with
  | some (.slice e) =>
    (match d with
    | .slice a dl _ sz =>
      (sizeT P e).bind fun size => (lenA s).bind fun sl =>
        (srcCells h size (min sl dl) s).bind fun vs =>
        match a with
        | none => some (.int .i64 (min sl dl : Nat), h)
        | some a => if size = sz then (storeN h a 0 vs).bind fun h' => some (.int .i64 (min sl dl : Nat), h') else none
    | _ => none)
  | _ => none
def decodeA (l : List UInt8) (i : Nat) : Nat × Nat := Utf8.decode ⟨⟨l⟩⟩ i
def runeV (pos : Nat) : AV → Option AV
  | .str s => some (.int .i32 (decodeA s pos).1)
  | _ => none
def widthIs (pos n : Nat) : AV → Bool
  | .str s => Nat.beq (decodeA s pos).2 n
  | _ => false
def widthV (pos : Nat) : List AV → Option Nat
  | .str s :: r => if r.all (widthIs pos (decodeA s pos).2) then some (decodeA s pos).2 else none
  | _ => none
def nextA (h : Heap) : AV → Option (AV × Heap)
  | .ptr (some a) =>
    match h.objs.get a.b with
    | some (.iter s pos) =>
      if a.i = 0 then
        if pos < s.length then
          let d := decodeA s pos
          (h.objs.set a.b (.iter s (pos + d.2))).bind fun o => some (.tup [.bool true, .int .i64 pos, .int .i32 d.1], { h with objs := o })
        else some (.tup [.bool false], h)
      else none
    | some (.viter ss pos) =>
      if a.i = 0 then
        match lenA (.vec ss) with
        | some n => if pos < n then
            (mapO (runeV pos) ss).bind fun rs => (collapse rs).bind fun r => (widthV pos ss).bind fun d =>
            (h.objs.set a.b (.viter ss (pos + d))).bind fun o => some (.tup [.bool true, .int .i64 pos, r], { h with objs := o })
          else some (.tup [.bool false], h)
        | none => none
      else none
    | _ => none
  | _ => none
def byteOf : AV → Option UInt8
  | .int .u8 c => some (UInt8.ofNat c.toNat)
  | _ => none
/-- a row of bytes handed on as such a row: the model marks it -/
def sameA (h : Heap) (a : Option Loc) (n room sz : Nat) : Option (AV × Heap) :=
  match a with
  | some a => (match h.objs.get a.b with | some (.cells false _ _) => if 0 < room then some (.slice (some a) n room sz, h) else none | _ => none)
  | none => none
def convertA (h : Heap) (src dst : TypeId) (x : AV) : Option (AV × Heap) :=
  if (P.underlying src).isSome = false then none else
  match x with
  | .int _ n => (match P.underlying dst with | some (.int k) => some (.int k (k.wrap n), h) | _ => none)
  | .str l => (match P.underlying dst with
    | some .string => some (.str l, h)
    | some (.slice e) => (match P.underlying e with
      | some (.int .u8) => if l.length ≤ 16777216 then (newRow h (bytesA l)).bind fun r => some (.slice (some ⟨r.1, 0, 0, l.length⟩) l.length l.length 1, r.2) else none
      | _ => none)
    | _ => none)
  | .vec ls => (match P.underlying dst with
    | some (.slice e) => (match P.underlying e with
      | some (.int .u8) => (lenA (.vec ls)).bind fun n => if n ≤ 16777216 then (transB n ls).bind fun vs => (newRow h vs).bind fun r => some (.slice (some ⟨r.1, 0, 0, n⟩) n n 1, r.2) else none
      | _ => none)
    | _ => none)
  | .slice a n room sz => (match P.underlying src with
    | some (.slice e) => (match P.underlying dst with
      | some .string => (match P.underlying e with
        | some (.int .u8) => (match a with
          | none => some (.str [], h)
          | some a => if sz = 1 then (loadN h a 0 n).bind fun vs => (mapO byteOf vs).map fun l => (.str l, h) else none)
        | _ => none)
      | some (.slice e') => (match P.underlying e' with
        | some (.int .u8) => if src = dst then sameA h a n room sz else none
        | _ => none)
      | _ => none)
    | _ => none)
  | _ => none

/-- what an operation does: a value, nothing, a call -/
inductive ANext where
  | val (v : AV) (h : Heap)
  | skip (h : Heap)
  | enter (f : Nat) (args : List AV)
def pureO (h : Heap) (o : Option AV) : Option ANext := o.map fun v => .val v h
def pairO (o : Option (AV × Heap)) : Option ANext := o.map fun (v, h) => .val v h
abbrev Rho := Operand → Option AV
def oNone (ρ : Rho) (h : Heap) : Option ANext := none
def oMove (x : Operand) (ρ : Rho) (h : Heap) : Option ANext := pureO h (ρ x)
def pickV (ρ : Rho) (h : Heap) (a b : Operand) (c : AV) : Option ANext := match c with | .bool t => pureO h (ρ (if t then a else b)) | _ => none
def oPick (c a b : Operand) (ρ : Rho) (h : Heap) : Option ANext := (ρ c).bind (pickV ρ h a b)
def ptrOf (n : Nat) (r : Nat × Heap) : ANext := .val (.ptr (some ⟨r.1, 0, 0, n⟩)) r.2
def newVal (h : Heap) (v : AV) : Option ANext := (newRow h (cellsA v)).map (ptrOf (cellsA v).length)
def oAlloc (e : TypeId) (ρ : Rho) (h : Heap) : Option ANext := (zeroT P e).bind (newVal h)
def oBox (e : TypeId) (x : Operand) (ρ : Rho) (h : Heap) : Option ANext := (ρ x).bind (newVal h)
def partsA (ρ : Rho) (parts : Array (Nat × Operand)) : Option (List (Nat × AV)) := mapO (fun p => (ρ p.2).map fun v => (p.1, v)) parts.toList
def oBuild (t : TypeId) (parts : Array (Nat × Operand)) (ρ : Rho) (h : Heap) : Option ANext :=
  (zeroT P t).bind fun z => (placesT P t).bind fun pl => (partsA ρ parts).bind fun ps => pureO h ((fillA pl (cellsA z) ps).map .agg)
def sliceOf (n len room sz : Nat) (r : Nat × Heap) : ANext := .val (.slice (some ⟨r.1, 0, 0, n⟩) len room sz) r.2
def oBuildSlice (t : TypeId) (len : Nat) (parts : Array (Nat × Operand)) (ρ : Rho) (h : Heap) : Option ANext :=
  match P.underlying t with
  | some (.slice e) => (sizeT P e).bind fun n => (zeroT P e).bind fun z => (partsA ρ parts).bind fun ps =>
      if len ≤ 65536 ∧ 0 < n ∧ n ≤ 256 ∧ (cellsA z).length = n then (fillA (fun i => some (i * n, n)) (reps (cellsA z) len) ps).bind fun cs => (newRow h cs).map (sliceOf (len * n) len len n) else none
  | _ => none
def oLoad (t : TypeId) (x : Operand) (ρ : Rho) (h : Heap) : Option ANext := (ρ x).bind fun p => pureO h (loadV P h t p)
def oStore (t : TypeId) (x y : Operand) (ρ : Rho) (h : Heap) : Option ANext := (ρ x).bind fun p => (ρ y).bind fun v => (storeV P h t p v).map .skip
def nilV (h : Heap) (v : AV) : Option ANext := match v with | .ptr (some a) => some (.val (.ptr (some a)) h) | .func f c => some (.val (.func f c) h) | _ => none
def oNilCheck (x : Operand) (ρ : Rho) (h : Heap) : Option ANext := (ρ x).bind (nilV h)
def isConstO : Operand → Bool
  | .const _ => true
  | _ => false
/-- two nil values of an interface: one of them must be the literal -/
def nilOk (c : Bool) (a b : AV) : Bool :=
  match a with
  | .nilI => (match b with | .nilI => c | _ => true)
  | _ => true
def oBin (op : BinOp) (t : TypeId) (x y : Operand) (_ : TypeId) (ρ : Rho) (h : Heap) : Option ANext := (ρ x).bind fun a => (ρ y).bind fun b => pureO h (bif nilOk (isConstO x || isConstO y) a b then binT P op t a b else none)
def oUn (op : UnOp) (_ : TypeId) (x : Operand) (ρ : Rho) (h : Heap) : Option ANext := (ρ x).bind fun a => pureO h (unA op a)
def oConvert (s d : TypeId) (x : Operand) (ρ : Rho) (h : Heap) : Option ANext := (ρ x).bind fun a => pairO (convertA P h s d a)
def optO (ρ : Rho) (x : Option Operand) : Option (Option AV) := match x with | some l => (ρ l).map some | none => some none
def oSlice (t : TypeId) (x : Operand) (lo hi mx : Option Operand) (ρ : Rho) (h : Heap) : Option ANext :=
  match mx with | some _ => none | none => (ρ x).bind fun a => (optO ρ lo).bind fun lo => (optO ρ hi).bind fun hi => pureO h (sliceA P t a lo hi)
def oFieldAddr (t : TypeId) (x : Operand) (f : Nat) (ρ : Rho) (h : Heap) : Option ANext := (ρ x).bind fun a => pureO h (fieldAddrA P t a f)
def oField (t : TypeId) (x : Operand) (f : Nat) (ρ : Rho) (h : Heap) : Option ANext := (ρ x).bind fun a => pureO h (fieldA P t a f)
def oIndexAddr (t : TypeId) (x i : Operand) (ρ : Rho) (h : Heap) : Option ANext := (ρ x).bind fun a => (ρ i).bind fun j => pureO h (indexAddrA P t a j)
def oIndex (t : TypeId) (x i : Operand) (ρ : Rho) (h : Heap) : Option ANext := (ρ x).bind fun a => (ρ i).bind fun j => pureO h (indexA P t a j)
def extV (h : Heap) (i : Nat) (a : AV) : Option ANext := match a with | .tup vs => pureO h (vs[i]?) | _ => none
def oExtract (x : Operand) (i : Nat) (ρ : Rho) (h : Heap) : Option ANext := (ρ x).bind (extV h i)
def oMakeFunc (fn : Fn) (first caps : Array Operand) (ρ : Rho) (h : Heap) : Option ANext :=
  match fn with | .func f => (if first.isEmpty then (mapO ρ caps.toList).bind fun cs => some (.val (.func f cs) h) else none) | _ => none
def mkV (h : Heap) (e : TypeId) (l c : AV) : Option ANext :=
  match l with
  | .int _ l => (match c with
    | .int _ c => (sizeT P e).bind fun n => (zeroT P e).bind fun z => if 0 ≤ l ∧ l ≤ c ∧ c ≤ 65536 ∧ 0 < n ∧ n ≤ 256 ∧ (cellsA z).length = n ∧ ((P.info? e).all fun i => decide (i.bytes ≤ 65536)) = true then (newRow h (reps (cellsA z) c.toNat)).map (sliceOf (c.toNat * n) l.toNat c.toNat n) else none
    | _ => none)
  | _ => none
def oMakeSlice (t : TypeId) (l c : Operand) (ρ : Rho) (h : Heap) : Option ANext :=
  match P.underlying t with | some (.slice e) => (ρ l).bind fun l => (ρ c).bind fun c => mkV P h e l c | _ => none
def iterOf (r : Nat × Heap) : ANext := .val (.ptr (some ⟨r.1, 0, 0, 1⟩)) r.2
def rangeV (t : TypeId) (h : Heap) (a : AV) : Option ANext :=
  match P.underlying t with
  | some .string => (match a with | .str l => (newObj h (.iter l 0)).map iterOf | .vec ls => (lenA (.vec ls)).bind fun _ => (newObj h (.viter ls 0)).map iterOf | _ => none)
  | some (.map _ _) => (match a with
    | .map (some b) => (match h.objs.get b with | some (.map es) => if es.length ≤ 1 then (newObj h (.miter b es.length false)).map iterOf else (newObj h (.mapit b es.length none)).map iterOf | _ => none)
    | _ => none)
  | _ => none
def oRange (t : TypeId) (x : Operand) (ρ : Rho) (h : Heap) : Option ANext := (ρ x).bind (rangeV P t h)
/-- the entry that an iterator over a map has come to -/
def entryM (h : Heap) : AV → Option AV
  | .ptr (some a) =>
    match h.objs.get a.b with
    | some (.mapit m n (some j)) =>
      if a.i = 0 then
        (match h.objs.get m with
        | some (.map es) => if es.length = n then (es[j]?).map fun e => .tup [e.1, e.2] else none
        | _ => none)
      else none
    | some (.miter m n true) =>
      if a.i = 0 then
        (match h.objs.get m with
        | some (.map es) => if es.length = n then (match es with | [e] => some (.tup [e.1, e.2]) | _ => none) else none
        | _ => none)
      else none
    | _ => none
  | _ => none
/-- the next entry of a map that has one at most -/
def nextM (h : Heap) : AV → Option (AV × Heap)
  | .ptr (some a) =>
    match h.objs.get a.b with
    | some (.miter m n seen) =>
      if a.i = 0 then
        (match h.objs.get m with
        | some (.map es) => if es.length = n then
            (match es with
            | [] => some (.tup [.bool false], h)
            | [e] => if seen then some (.tup [.bool false], h) else (h.objs.set a.b (.miter m n true)).map fun o => (.tup [.bool true, e.1, e.2], { h with objs := o })
            | _ => none) else none
        | _ => none)
      else none
    | _ => none
  | _ => none
def oEntry (x : Operand) (ρ : Rho) (h : Heap) : Option ANext := (ρ x).bind fun a => pureO h (entryM h a)
def oNext (x : Operand) (s : Bool) (ρ : Rho) (h : Heap) : Option ANext := bif s then (ρ x).bind fun a => pairO (nextA h a) else (ρ x).bind fun a => pairO (nextM h a)
/-! maps -/
/-- may a value be looked for among a map's keys? -/
def chkFs (chk : TypeId → AV → Bool) (xs : List AV) : List Field → Bool
  | [] => true
  | f :: fs => if f.name = "_" then false else (match partA P f.type xs f.offset with | some v => chk f.type v | none => false) && chkFs chk xs fs
def chkA : Nat → TypeId → AV → Bool
  | 0, _, _ => false
  | d + 1, t, x =>
    match P.underlying t with
    | some .bool => (match x with | .bool _ => true | _ => false)
    | some (.int _) => (match x with | .int _ _ => true | _ => false)
    | some .string => (match x with | .str _ => true | _ => false)
    | some (.struct fs) => (match x with | .agg xs => chkFs P (chkA d) xs fs.toList | _ => false)
    | _ => false
def scalar1 : AV → Bool
  | .bool _ | .int _ _ | .str _ => true
  | _ => false
def scalar2 : AV → Bool
  | .vec l => l.all scalar1
  | x => scalar1 x
def scalarV : AV → Bool
  | .agg l => l.all scalar2
  | x => scalar2 x
def allSame : List Bool → Option Bool
  | [] => none
  | b :: r => bif r.all (· == b) then some b else none
def eqK (kt : TypeId) (k e : AV) : Option Bool :=
  match eqIn P 5 kt k e with
  | some b => some b
  | none => (mapO (fun j => eqIn P 5 kt (atV j k) (atV j e)) (List.range LANES)).bind allSame
def chkK (kt : TypeId) (k : AV) : Bool := chkA P 5 kt k || (List.range LANES).all fun j => chkA P 5 kt (atV j k)
/-- the key's place among the entries, what is there -/
def findM (kt : TypeId) (k : AV) : List (AV × AV) → Nat → Option (Option (Nat × AV))
  | [], _ => some none
  | e :: es, i => (eqK P kt k e.1).bind fun b => if b then some (some (i, e.2)) else findM kt k es (i + 1)
def putE (k v : AV) : Nat → List (AV × AV) → List (AV × AV)
  | _, [] => []
  | 0, _ :: es => (k, v) :: es
  | i + 1, e :: es => e :: putE k v i es
def mapOf (r : Nat × Heap) : ANext := .val (.map (some r.1)) r.2
def oMakeMap (r : Option Operand) (ρ : Rho) (h : Heap) : Option ANext :=
  match r with | none => (newObj h (.map [])).map mapOf | some _ => none
def entsA (h : Heap) : AV → Option (List (AV × AV))
  | .map none => some []
  | .map (some b) => (match h.objs.get b with | some (.map es) => some es | _ => none)
  | _ => none
def lookV (h : Heap) (kt elem : TypeId) (ok : Bool) (m k : AV) : Option AV :=
  (entsA h m).bind fun es => bif chkK P kt k then (findM P kt k es 0).bind fun r => (zeroT P elem).map fun z =>
    match r with
    | some (_, v) => if ok then .tup [v, .bool true] else v
    | none => if ok then .tup [z, .bool false] else z
  else none
def oLookup (t : TypeId) (x i : Operand) (ok : Bool) (ρ : Rho) (h : Heap) : Option ANext :=
  match P.underlying t with
  | some (.map kt e) => (ρ x).bind fun m => (ρ i).bind fun k => pureO h (lookV P h kt e ok m k)
  | _ => none
def updV (h : Heap) (kt : TypeId) (m k v : AV) : Option Heap :=
  match m with
  | .map (some b) => (match h.objs.get b with
    | some (.map es) => bif chkK P kt k && scalarV k then (findM P kt k es 0).bind fun r =>
        (match r with
        | some (i, _) => (match es[i]? with | some e => if sameV k e.1 then some (putE k v i es) else none | none => none)
        | none => some (es ++ [(k, v)])).bind fun es' => (h.objs.set b (.map es')).map fun o => { h with objs := o }
      else none
    | _ => none)
  | _ => none
def oMapUpdate (t : TypeId) (m k v : Operand) (ρ : Rho) (h : Heap) : Option ANext :=
  match P.underlying t with
  | some (.map kt _) => (ρ m).bind fun m => (ρ k).bind fun k => (ρ v).bind fun v => (updV P h kt m k v).map .skip
  | _ => none
def one1 (f : AV → Option ANext) (xs : List AV) : Option ANext := match xs with | [x] => f x | _ => none
def two2 (f : AV → AV → Option ANext) (xs : List AV) : Option ANext := match xs with | [x, y] => f x y | _ => none
def minI (k : IntKind) (a b : Int) : Option AV := some (.int k (if b < a then b else a))
def maxI (k : IntKind) (a b : Int) : Option AV := some (.int k (if b > a then b else a))
def moreT (u : TypeId) : Bool := match P.underlying u with | some (.int _) => false | some _ => true | none => false
def lenT (t : TypeId) (x : AV) : Option AV :=
  match P.underlying t with
  | some .string => (match x with | .str l => some (.int .i64 l.length) | _ => none)
  | some (.slice _) => (match x with | .slice _ n _ _ => some (.int .i64 n) | _ => none)
  | _ => none
def clearA (t : TypeId) (h : Heap) (x : AV) : Option ANext :=
  match P.underlying t with
  | some (.slice e) => (match x with
    | .slice none _ _ _ => some (.val (.tup []) h)
    | .slice (some a) n _ sz => (sizeT P e).bind fun size => (zeroT P e).bind fun z => if size = sz ∧ (cellsA z).length = size then (storeN h a 0 (reps (cellsA z) n)).map fun h => .val (.tup []) h else none
    | _ => none)
  | _ => none
def builtinA (b : Builtin) (ts : Array TypeId) (h : Heap) (xs : List AV) : Option ANext :=
  match b with
  | .len => one1 (fun x => (ts[0]?).bind fun t => pureO h (lenT P t x)) xs
  | .append => two2 (fun s x => (ts[0]?).bind fun t => (ts[1]?).bind fun u => if moreT P u then pairO (appendA P h t s x) else none) xs
  | .copy => two2 (fun s x => (ts[0]?).bind fun t => pairO (copyA P h t s x)) xs
  | .clear => one1 (fun x => (ts[0]?).bind fun t => clearA P t h x) xs
  | .min => two2 (fun x y => pureO h (int2 minI x y)) xs
  | .max => two2 (fun x y => pureO h (int2 maxI x y)) xs
  | _ => none
def enterV (xs : List AV) (f : AV) : Option ANext := match f with | .func f caps => some (.enter f (xs ++ caps)) | _ => none
def oCall (c : Call) (ρ : Rho) (h : Heap) : Option ANext :=
  (mapO ρ c.args.toList).bind fun xs =>
    match c.callee with
    | .builtin b => builtinA P b c.argTypes h xs
    | .value x => (ρ x).bind (enterV xs)
    | _ => none
def opA (o : Op) : Rho → Heap → Option ANext :=
  match o with
  | .move x | .assign x => oMove x
  | .pick c a b => oPick c a b
  | .alloc e => oAlloc P e
  | .box e x => oBox e x
  | .build t ps => oBuild P t ps
  | .buildSlice t n ps => oBuildSlice P t n ps
  | .load t x => oLoad P t x
  | .store t x y => oStore P t x y
  | .nilCheck x => oNilCheck x
  | .binOp op t x y u => oBin P op t x y u
  | .unOp op t x => oUn op t x
  | .convert s d x => oConvert P s d x
  | .makeFunc f a c => oMakeFunc f a c
  | .makeSlice t l c => oMakeSlice P t l c
  | .slice t x l h m => oSlice P t x l h m
  | .fieldAddr t x f => oFieldAddr P t x f
  | .field t x f => oField P t x f
  | .indexAddr t x i => oIndexAddr P t x i
  | .index t x i => oIndex P t x i
  | .range t x => oRange P t x
  | .next x s => oNext x s
  | .entry x => oEntry x
  | .extract x i => oExtract x i
  | .call c => oCall P c
  | .makeMap _ r => oMakeMap r
  | .lookup t x i ok => oLookup P t x i ok
  | .mapUpdate t m k x | .insert t m k x => oMapUpdate P t m k x
  | _ => oNone
def aop0 (ρ : Rho) (h : Heap) (o : Oper) : Option ANext := opA P o.op ρ h
/-- operations that may be done lane by lane -/
def pureL (o : Oper) : Bool :=
  match o.op with
  | .binOp .. | .unOp .. | .slice .. | .fieldAddr .. | .indexAddr .. | .index .. | .load .. | .lookup .. => true
  | .call c => (match c.callee with | .builtin .len => true | _ => false)
  | .convert _ d _ => (match P.underlying d with | some (.int _) | some .string => true | _ => false)
  | _ => false
def laneR (j : Nat) (ρ : Rho) : Rho := fun x => (ρ x).map (atV j)
def valO : Option ANext → Option AV
  | some (.val v _) => some v
  | _ => none
def laneV (ρ : Rho) (h : Heap) (o : Oper) (j : Nat) : Option AV := valO (aop0 P (laneR j ρ) (projH j h) o)
def lanesA (ρ : Rho) (h : Heap) (o : Oper) : Option ANext :=
  bif pureL P o then ((mapO (laneV P ρ h o) (List.range LANES)).bind collapse).map fun v => .val v h else none
def orElseL (x y : Option ANext) : Option ANext := match x with | some r => some r | none => y
/-! operations more -/
def eqS (op : BinOp) (t : TypeId) (x y : AV) : Option AV :=
  match x with
  | .agg xs => (match y with
    | .agg ys => bif P.eqGuardType P.depth t then none else (eqIn P 5 t (.agg xs) (.agg ys)).bind fun c => (match op with | .eql => some (.bool c) | .neq => some (.bool (!c)) | _ => none)
    | _ => none)
  | _ => none
def oEqS (op : BinOp) (t : TypeId) (x y : Operand) (ρ : Rho) (h : Heap) : Option ANext := (ρ x).bind fun a => (ρ y).bind fun b => pureO h (eqS P op t a b)
def oSlice3 (t : TypeId) (x : Operand) (lo hi mx : Option Operand) (ρ : Rho) (h : Heap) : Option ANext :=
  match mx with
  | some m => (match hi with
    | some hi => (ρ x).bind fun a => (optO ρ lo).bind fun lo => (ρ hi).bind fun hi => (ρ m).bind fun m => pureO h (slice3A P t a lo hi m)
    | none => none)
  | none => none
def entV (h : Heap) (kt el : TypeId) (m k : AV) : Option (AV × Heap) :=
  match m with
  | .map (some b) => (match h.objs.get b with
    | some (.map es) => bif chkK P kt k && scalarV k then (findM P kt k es 0).bind fun r =>
        (match r with
        | some (i, v) => (match es[i]? with | some e => if sameV k e.1 && sameV v e.2 then some (AV.tup [v, .int .i64 (i : Nat)], putE k v i es) else none | none => none)
        | none => (zeroT P el).map fun z => (AV.tup [z, .int .i64 (es.length : Nat)], es ++ [(k, z)])).bind fun r => (h.objs.set b (.map r.2)).map fun o => (r.1, { h with objs := o })
      else none
    | _ => none)
  | _ => none
def oMapEntry (t : TypeId) (m k : Operand) (ρ : Rho) (h : Heap) : Option ANext :=
  match P.underlying t with
  | some (.map kt el) => (ρ m).bind fun m => (ρ k).bind fun k => pairO (entV P h kt el m k)
  | _ => none
def storV (h : Heap) (m s v : AV) : Option Heap :=
  match m with
  | .map (some b) => (match h.objs.get b with
    | some (.map es) => (match s with
      | .int _ (.ofNat i) => (match es[i]? with
        | some e => (h.objs.set b (.map (putE e.1 v i es))).map fun o => { h with objs := o }
        | none => none)
      | _ => none)
    | _ => none)
  | _ => none
def oEntryStore (m s v : Operand) (ρ : Rho) (h : Heap) : Option ANext := (ρ m).bind fun m => (ρ s).bind fun s => (ρ v).bind fun v => (storV h m s v).map .skip
def extraO (o : Oper) : Bool :=
  match o.op with
  | .binOp .. | .slice .. | .mapEntry .. | .entryStore .. => true
  | _ => false
def aopX (ρ : Rho) (h : Heap) (o : Oper) : Option ANext :=
  match o.op with
  | .binOp op t x y _ => oEqS P op t x y ρ h
  | .slice t x lo hi mx => oSlice3 P t x lo hi mx ρ h
  | .mapEntry t m k => oMapEntry P t m k ρ h
  | .entryStore _ m s v => oEntryStore m s v ρ h
  | _ => none
def aopY (ρ : Rho) (h : Heap) (o : Oper) : Option ANext := orElseL (aopX P ρ h o) (lanesA P ρ h o)
def aop (ρ : Rho) (h : Heap) (o : Oper) : Option ANext := orElseL (aop0 P ρ h o) (aopY P ρ h o)
end ops

/-! control -/
inductive AEx where
  | normal | exit (id : Nat) | ret
section run
variable (P : Program) (glob : Nat → Option AV) (call : Nat → List AV → Heap → Option (AV × Heap)) (L : Nat) (N : Nat)
def putA (fr : Fr) (dst : Option Tmp) (v : AV) : Option Fr :=
  match dst with
  | some d => if d < N then fr.set d v else none
  | none => some fr
def yieldA (ops : Array Oper) (fr : Fr) (j : Nat) : Option Bool :=
  match ((ops[j]?).bind (·.dst)).bind fr.get with
  | some (.bool b) => some b
  | _ => none
def wantA (ops : Array Oper) (fr : Fr) (o : Oper) : Bool :=
  match o.guard with
  | none => true
  | some (j, want) => match yieldA ops fr j with | some b => b == want | none => false
/-- is it known whether the operation is to be done? -/
def guardLive (ops : Array Oper) (fr : Fr) (o : Oper) : Bool :=
  match o.guard with
  | none => true
  | some (j, _) => match ((ops[j]?).bind (·.dst)).bind fr.get with | some .any => false | some (.vec _) => false | _ => true
def mkSt (h : Heap) (fr : Fr) : St := ⟨fr, h⟩
def afterA (fr : Fr) (h : Heap) (dst : Option Tmp) (r : ANext) : Option St :=
  match r with
  | .val v h => (putA N fr dst v).map (mkSt h)
  | .skip h => (putA N fr dst .u).map (mkSt h)
  | .enter f args => (call f args h).bind fun r => (putA N fr dst r.1).map (mkSt r.2)
def stepA (ops : Array Oper) (st : St) (o : Oper) : Option St :=
  bif guardLive ops st.fr o then (bif wantA ops st.fr o then (aop P (evalO glob st.fr) st.h o).bind (afterA call N st.fr st.h o.dst) else (putA N st.fr o.dst .u).map (mkSt st.h)) else none
def opsA (ops : Array Oper) : List Oper → St → Option St
  | [], st => some st
  | o :: r, st => (stepA P glob call N ops st o).bind (opsA ops r)
/-! regions that draw their order -/
/-- kinds of operations: 0 hangs on its operands alone, 1 reads the memory, 2 does anything -/
def kindA (o : Oper) : Nat :=
  match o.op with
  | .move _ | .assign _ | .pick .. | .binOp .. | .unOp .. | .slice .. | .fieldAddr .. | .field .. | .indexAddr .. | .index .. | .extract .. | .nilCheck _ | .build .. | .makeFunc .. => 0
  | .call c => (match c.callee with | .builtin .len | .builtin .min | .builtin .max => 0 | _ => 2)
  | .convert _ d _ => (match P.underlying d with | some (.int _) => 0 | some .string => 1 | _ => 2)
  | .load .. | .lookup .. => 1
  | _ => 2
def edgesA (o : Oper) : List Nat := (o.after.toList.filter (Region.binds .any)).map (·.on)
/-- who must be ahead of each -/
def preOf (i : Nat) (o : Oper) (acc : List (List Nat)) : List Nat := (List.range i).filter fun j => (edgesA o).contains j || (edgesA o).any fun e => (acc.getD e []).contains j
def preA : List Oper → List (List Nat) → List (List Nat)
  | [], acc => acc
  | o :: r, acc => preA r (acc ++ [preOf acc.length o acc])
def evalR (fr : Fr) (reads : List Nat) : Rho
  | .tmp t => if reads.contains t then tmpV fr t else none
  | x => evalO glob fr x
def isChain (ops : List Oper) (i : Nat) : Bool := match ops[i]? with | some o => kindA P o == 2 | none => false
/-- may two operations be done in either order? -/
def freely (ops : Array Oper) (x y : Oper) : Bool := x.apart ops y && (kindA P x != 2 || kindA P y != 2)
/-- a new variable: it may be made ahead of what stands before it -/
def isAllocO (o : Oper) : Bool :=
  match o.op with
  | .alloc _ => o.guard.isNone && o.dst.isSome
  | _ => false
def pairOk (ops : Array Oper) (pre : List Nat) (x o : Oper) (j : Nat) : Bool := (pre.contains j && (x.dst.isNone || x.dst != o.dst)) || (freely P ops x o || (isAllocO o && x.apart ops o))
def looseA (ops : List Oper) (j : Nat) : Bool := (match ops[j]? with | some o => isAllocO o | none => false) && (List.range j).any fun c => isChain P ops c && !((preA ops []).getD j []).contains c
/-- who hangs on such a variable is a link of the chain -/
def looseOk (ops : List Oper) : Bool := (List.range ops.length).all fun i => isChain P ops i || (List.range ops.length).all fun j => !(looseA P ops j && ((preA ops []).getD i []).contains j)
def orderly (ops : Array Oper) : Bool :=
  looseOk P ops.toList && ops.toList.zipIdx.all fun z => (edgesA z.1).all (fun e => decide (e < z.2)) &&
    (ops.toList.take z.2).zipIdx.all fun y => pairOk P ops ((preA ops.toList []).getD z.2 []) y.1 z.1 y.2
/-- the states of the region, in the order of the text -/
def stepD (ops : Array Oper) (st : St) (o : Oper) : Option St :=
  bif guardLive ops st.fr o then (bif wantA ops st.fr o then (aop P (evalR glob st.fr (o.looksAt ops)) st.h o).bind (afterA call N st.fr st.h o.dst) else (putA N st.fr o.dst .u).map (mkSt st.h)) else none
def statesA (ops : Array Oper) : List Oper → St → Option (List St)
  | [], st => some [st]
  | o :: r, st => (stepD P glob call N ops st o).bind fun st' => (statesA ops r st').map fun l => st :: l
/-- from which state's memory on may an operation be done? -/
def window (pre : List (List Nat)) (ops : List Oper) (i s : Nat) : Bool :=
  (List.range ops.length).all fun c => !isChain P ops c || ((!(pre.getD i []).contains c || decide (c < s)) && (!(pre.getD c []).contains i || decide (s ≤ c)))
def between (ops : List Oper) (i s : Nat) : Bool :=
  (List.range ops.length).any fun c => isChain P ops c && (decide (c < i) != decide (c < s))
/-- where a reading operation must be looked at: the operation, the state -/
def looks (ops : List Oper) : List (Nat × Nat) :=
  (List.range ops.length).flatMap fun i => match ops[i]? with
    | some o => if kindA P o == 1 then ((List.range (ops.length + 1)).filter fun s => (s == 0 || isChain P ops (s - 1)) && window P (preA ops []) ops i s && between P ops i s).map fun s => (i, s) else []
    | none => []
def steady1 (ops : Array Oper) (sts : List St) (z : Nat × Nat) : Bool :=
  match ops[z.1]? with
  | some o => (match sts[z.1]? with
    | some st => (match sts[z.2]? with
      | some st' => !wantA ops st.fr o || (match aop P (evalR glob st.fr (o.looksAt ops)) st.h o with
        | some (.val v _) => (match aop P (evalR glob st.fr (o.looksAt ops)) st'.h o with
          | some (.val v' _) => sameV v v'
          | _ => false)
        | _ => false)
      | none => false)
    | none => false)
  | none => false
def lastO : List St → Option St
  | [] => none
  | [x] => some x
  | _ :: l => lastO l
def anyA (ops : Array Oper) (st : St) : Option St :=
  bif orderly P ops then (statesA P glob call N ops ops.toList st).bind fun sts =>
    bif (looks P ops.toList).all (steady1 P glob ops sts) then lastO sts else none
  else none
def iterA (body : St → Option (AEx × St)) : Nat → St → Option (AEx × St)
  | 0, _ => none
  | n + 1, st => (body st).bind fun r =>
    match r with
    | (.normal, st) => iterA body n st
    | r => some r
def codeA : Code → St → Option (AEx × St)
  | .skip, st => some (.normal, st)
  | .label _, st => some (.normal, st)
  | .region _ ops d, st => if d then (anyA P glob call N ops st).map fun st => (.normal, st) else (opsA P glob call N ops ops.toList st).map fun st => (.normal, st)
  | .seq a b, st => (codeA a st).bind fun r => match r with | (.normal, st) => codeA b st | r => some r
  | .cond c a b, st => (evalO glob st.fr c).bind fun v => match v with | .bool true => codeA a st | .bool false => codeA b st | _ => none
  | .block id b, st => (codeA b st).map fun r => match r with | (.exit id', st) => if id' = id then (.normal, st) else (.exit id', st) | r => r
  | .loop b, st => iterA (codeA b) L st
  | .exit id, st => some (.exit id, st)
  | .ret, st => some (.ret, st)
  | _, _ => none
def argsFr : Nat → List AV → Fr → Option Fr
  | _, [], fr => some fr
  | i, v :: r, fr => (fr.set i v).bind (argsFr (i + 1) r)
def resA (h : Heap) (fr : Fr) : ResultVar → Option AV
  | .tmp t => (fr.get t).bind liveV
  | .cell a t => ((fr.get a).bind liveV).bind fun p => loadV P h t p
/-! functions that the model answers by itself -/
def bytesO (h : Heap) : AV → Option (List UInt8)
  | .str l => some l
  | .slice none _ _ _ => some []
  | .slice (some a) n _ sz => if sz = 1 then (loadN h a 0 n).bind (mapO byteOf) else none
  | _ => none
def findI (c : UInt8) : List UInt8 → Nat → Option Nat
  | [], _ => none
  | x :: l, i => bif x == c then some i else findI c l (i + 1)
def indexOut : Option Nat → AV
  | some i => .int .i64 (.ofNat i)
  | none => .int .i64 (-1)
def indexByteA (h : Heap) (args : List AV) : Option (AV × Heap) :=
  match args with
  | [b, c] => (bytesO h b).bind fun l => (byteOf c).map fun c => (indexOut (findI c l 0), h)
  | _ => none
def extA (fn : Func) (args : List AV) (h : Heap) : Option (AV × Heap) :=
  if fn.origin = "" then
    (if fn.name = "internal/bytealg.IndexByte" then indexByteA h args
    else if fn.name = "internal/bytealg.IndexByteString" then indexByteA h args
    else none)
  else none
def fstO : Option (AV × Heap) → Option AV
  | some (v, _) => some v
  | none => none
def lanesE (fn : Func) (args : List AV) (h : Heap) : Option (AV × Heap) :=
  ((mapO (fun j => fstO (extA fn (args.map (atV j)) (projH j h))) (List.range LANES)).bind collapse).map fun v => (v, h)
def extL (fn : Func) (args : List AV) (h : Heap) : Option (AV × Heap) := match extA fn args h with | some r => some r | none => lanesE fn args h
def tupA : List AV → AV
  | [v] => v
  | vs => .tup vs
end run
/-! ranges over functions: the machine in a round, and in the function that is ranged over -/
abbrev YieldT := List AV → Heap → Option (AV × Heap)
def noYield : YieldT := fun _ _ => none
section yields
variable (P : Program) (glob : Nat → Option AV) (call : Nat → List AV → Heap → Option (AV × Heap)) (yb : Nat) (yc : YieldT) (L N : Nat)
/-- is the operation a call of the loop's own function? -/
def yieldArgs (ρ : Rho) (o : Oper) : Option (List AV) :=
  match o.op with
  | .call c => (match c.callee with
    | .value x => (match ρ x with
      | some (.yld b) => bif Nat.beq b yb then mapO ρ c.args.toList else none
      | _ => none)
    | _ => none)
  | _ => none
def stepI (ops : Array Oper) (st : St) (o : Oper) : Option St :=
  match yieldArgs yb (evalO glob st.fr) o with
  | some xs => bif guardLive ops st.fr o then (bif wantA ops st.fr o then (yc xs st.h).bind fun r => (putA N st.fr o.dst r.1).map (mkSt r.2) else (putA N st.fr o.dst .u).map (mkSt st.h)) else none
  | none => stepA P glob call N ops st o
def opsI (ops : Array Oper) : List Oper → St → Option St
  | [], st => some st
  | o :: r, st => (stepI P glob call yb yc N ops st o).bind (opsI ops r)
def codeI : Code → St → Option (AEx × St)
  | .skip, st => some (.normal, st)
  | .label _, st => some (.normal, st)
  | .region _ ops d, st => if d then none else (opsI P glob call yb yc N ops ops.toList st).map fun st => (.normal, st)
  | .seq a b, st => (codeI a st).bind fun r => match r with | (.normal, st) => codeI b st | r => some r
  | .cond c a b, st => (evalO glob st.fr c).bind fun v => match v with | .bool true => codeI a st | .bool false => codeI b st | _ => none
  | .block id b, st => (codeI b st).map fun r => match r with | (.exit id', st) => if id' = id then (.normal, st) else (.exit id', st) | r => r
  | .loop b, st => iterA (codeI b) L st
  | .exit id, st => some (.exit id, st)
  | .ret, st => some (.ret, st)
  | _, _ => none
def outA (fn : Func) (r : AEx × St) : Option (AV × Heap) :=
  match r with
  | (.normal, st) | (.ret, st) => (mapO (resA P st.h st.fr) fn.results.toList).map fun vs => (tupA vs, st.h)
  | _ => none
def funcI (f : Nat) (args : List AV) (h : Heap) : Option (AV × Heap) :=
  (P.funcs[f]?).bind fun fn => match fn.body with | none => none | some c => (argsFr 0 args .nil).bind fun fr => (if args.length ≤ fn.ntmps then codeI P glob call yb yc L fn.ntmps c ⟨fr, h⟩ else none).bind (outA P fn)
end yields
section ranges
variable (P : Program) (glob : Nat → Option AV) (call : Nat → List AV → Heap → Option (AV × Heap)) (L N : Nat)
def putAll : Fr → List Tmp → List AV → Option Fr
  | fr, [], [] => some fr
  | fr, t :: ts, x :: xs => (putA N fr (some t) x).bind fun fr => putAll fr ts xs
  | _, _, _ => none
/-- a round of the loop: its frame is the one that the loop was come to with -/
def roundA (ps : Array Tmp) (assign body : Code) (fr0 : Fr) : YieldT := fun xs h =>
  (putAll N fr0 ps.toList xs).bind fun fr => (codeI P glob call 0 noYield L N assign ⟨fr, h⟩).bind fun r => match r with
    | (.normal, st) => (codeI P glob call 0 noYield L N body st).bind fun r => match r with
      | (.normal, st) => some (.bool true, st.h)
      | _ => none
    | _ => none
def rangeA (g : Operand) (ps : Array Tmp) (assign body : Code) (st : St) : Option St :=
  (evalO glob st.fr g).bind fun v => match v with
    | .func f cs => (funcI P glob call st.h.next (roundA P glob call L N ps assign body st.fr) L f (.yld st.h.next :: cs) ⟨st.h.next + 1, st.h.objs⟩).map fun r => ⟨st.fr, r.2⟩
    | _ => none
def hasRange : Code → Bool
  | .rangeFunc _ _ _ _ => true
  | .seq a b => hasRange a || hasRange b
  | .cond _ a b => hasRange a || hasRange b
  | .block _ b => hasRange b
  | .loop b => hasRange b
  | _ => false
def codeD : Code → St → Option (AEx × St)
  | .skip, st => some (.normal, st)
  | .label _, st => some (.normal, st)
  | .region _ ops d, st => if d then (anyA P glob call N ops st).map fun st => (.normal, st) else (opsA P glob call N ops ops.toList st).map fun st => (.normal, st)
  | .seq a b, st => (codeD a st).bind fun r => match r with | (.normal, st) => codeD b st | r => some r
  | .cond c a b, st => (evalO glob st.fr c).bind fun v => match v with | .bool true => codeD a st | .bool false => codeD b st | _ => none
  | .block id b, st => (codeD b st).map fun r => match r with | (.exit id', st) => if id' = id then (.normal, st) else (.exit id', st) | r => r
  | .loop b, st => iterA (codeD b) L st
  | .exit id, st => some (.exit id, st)
  | .ret, st => some (.ret, st)
  | .rangeFunc g ps assign body, st => (rangeA P glob call L N g ps assign body st).map fun st => (.normal, st)
  | _, _ => none
def funcA (f : Nat) (args : List AV) (h : Heap) : Option (AV × Heap) :=
  (P.funcs[f]?).bind fun fn => match fn.body with | none => extL fn args h | some c => (argsFr 0 args .nil).bind fun fr => (if args.length ≤ fn.ntmps then (bif hasRange c then codeD P glob call L fn.ntmps c ⟨fr, h⟩ else codeA P glob call L fn.ntmps c ⟨fr, h⟩) else none).bind fun r =>
    match r with
    | (.normal, st) | (.ret, st) => (mapO (resA P st.h st.fr) fn.results.toList).map fun vs => (tupA vs, st.h)
    | _ => none
end ranges
/-- functions whose answers are shown by hand -/
abbrev HookT := Nat → List AV → Heap → Option (AV × Heap)
def noHook : HookT := fun _ _ _ => none
def orHook (x y : Option (AV × Heap)) : Option (AV × Heap) := match x with | some r => some r | none => y
def callA (P : Program) (glob : Nat → Option AV) (hk : HookT) (L : Nat) : Nat → Nat → List AV → Heap → Option (AV × Heap)
  | 0, _, _, _ => none
  | n + 1, f, args, h => orHook (hk f args h) (funcA P glob (callA P glob hk L n) L f args h)
end Go.Vai
