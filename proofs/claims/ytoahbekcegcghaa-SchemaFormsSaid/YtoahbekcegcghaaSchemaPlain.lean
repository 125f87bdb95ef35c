/- Plain laws of chapter 8's scalars, over lists of bytes: what is null, a bool, a whole number, a number. No program in sight. -/
import Derived.KernelRfl
namespace Go.Proofs.Ytoahbekcegcghaa.SchemaPlain
set_option linter.unusedSimpArgs false
set_option linter.unusedVariables false

def dig (c : UInt8) : Bool := decide (48 ≤ c.toNat) && decide (c.toNat ≤ 57)
def oct (c : UInt8) : Bool := decide (48 ≤ c.toNat) && decide (c.toNat ≤ 55)
def hexd (c : UInt8) : Bool := dig c || (decide (97 ≤ c.toNat) && decide (c.toNat ≤ 102)) || (decide (65 ≤ c.toNat) && decide (c.toNat ≤ 70))
def sgn : List UInt8 → List UInt8
  | [] => []
  | c :: t => if c.toNat = 45 ∨ c.toNat = 43 then t else c :: t
def allB (p : UInt8 → Bool) (l : List UInt8) : Bool := !l.isEmpty && l.all p
def nulls : List (List UInt8) := [[110, 117, 108, 108], [78, 117, 108, 108], [78, 85, 76, 76], [126], []]
def bools : List (List UInt8) := [[116, 114, 117, 101], [84, 114, 117, 101], [84, 82, 85, 69], [102, 97, 108, 115, 101], [70, 97, 108, 115, 101], [70, 65, 76, 83, 69]]
def nans : List (List UInt8) := [[46, 110, 97, 110], [46, 78, 97, 78], [46, 78, 65, 78]]
def infs : List (List UInt8) := [[46, 105, 110, 102], [46, 73, 110, 102], [46, 73, 78, 70]]
def nullS (l : List UInt8) : Bool := decide (l ∈ nulls)
def boolS (l : List UInt8) : Bool := decide (l ∈ bools)
def pref8 : List UInt8 → Option (List UInt8)
  | a :: b :: r => if a.toNat = 48 ∧ b.toNat = 111 then some r else none
  | _ => none
def pref16 : List UInt8 → Option (List UInt8)
  | a :: b :: r => if a.toNat = 48 ∧ b.toNat = 120 then some r else none
  | _ => none
def ofO (p : UInt8 → Bool) : Option (List UInt8) → Bool
  | some r => allB p r
  | none => false
def intS (l : List UInt8) : Bool := allB dig (sgn l) || ofO oct (pref8 l) || ofO hexd (pref16 l)
def expS : List UInt8 → Bool
  | [] => true
  | c :: r => (decide (c.toNat = 101) || decide (c.toNat = 69)) && allB dig (sgn r)
def behindS (n : Nat) (r : List UInt8) : Bool := if n = 0 then false else expS r
def numS (t : List UInt8) : Bool :=
  match t.dropWhile dig with
  | [] => decide (0 < (t.takeWhile dig).length)
  | c :: q => if c.toNat = 46 then behindS ((t.takeWhile dig).length + (q.takeWhile dig).length) (q.dropWhile dig) else behindS (t.takeWhile dig).length (c :: q)
def floatS (l : List UInt8) : Bool := decide (l ∈ nans) || decide (sgn l ∈ infs) || numS (sgn l)
def resolveS (l : List UInt8) : List UInt8 :=
  if nullS l then [33, 33, 110, 117, 108, 108] else if boolS l then [33, 33, 98, 111, 111, 108] else if intS l then [33, 33, 105, 110, 116]
  else if floatS l then [33, 33, 102, 108, 111, 97, 116] else [33, 33, 115, 116, 114]

def decs : List UInt8 := [48, 49, 50, 51, 52, 53, 54, 55, 56, 57]
def octs : List UInt8 := [48, 49, 50, 51, 52, 53, 54, 55]
def hexs : List UInt8 := [48, 49, 50, 51, 52, 53, 54, 55, 56, 57, 97, 98, 99, 100, 101, 102, 65, 66, 67, 68, 69, 70]
theorem dig_mem (c : UInt8) : decide (c ∈ decs) = dig c := by
  have h := (by decide +kernel : ∀ n, n < 256 → decide (UInt8.ofNat n ∈ decs) = dig (UInt8.ofNat n)) c.toNat c.toNat_lt
  simpa using h
theorem oct_mem (c : UInt8) : decide (c ∈ octs) = oct c := by
  have h := (by decide +kernel : ∀ n, n < 256 → decide (UInt8.ofNat n ∈ octs) = oct (UInt8.ofNat n)) c.toNat c.toNat_lt
  simpa using h
theorem hex_mem (c : UInt8) : decide (c ∈ hexs) = hexd c := by
  have h := (by decide +kernel : ∀ n, n < 256 → decide (UInt8.ofNat n ∈ hexs) = hexd (UInt8.ofNat n)) c.toNat c.toNat_lt
  simpa using h

theorem takeDrop {p : UInt8 → Bool} : ∀ l : List UInt8, (l.takeWhile p).length + (l.dropWhile p).length = l.length
  | [] => rfl
  | c :: t => by
    have := takeDrop (p := p) t
    by_cases h : p c = true <;> simp_all [List.takeWhile_cons, List.dropWhile_cons] <;> omega
theorem all_drop {p : UInt8 → Bool} : ∀ l : List UInt8, l.all p = (l.dropWhile p).isEmpty
  | [] => rfl
  | c :: t => by
    have := all_drop (p := p) t
    by_cases h : p c = true <;> simp_all [List.dropWhile_cons]
theorem all_take {p : UInt8 → Bool} (l : List UInt8) : l.all p = decide ((l.takeWhile p).length = l.length) := by
  rw [all_drop, Bool.eq_iff_iff]
  have := takeDrop (p := p) l
  simp only [List.isEmpty_iff, decide_eq_true_eq]
  constructor
  · intro h; rw [h] at this; simpa using this
  · intro h; apply List.eq_nil_of_length_eq_zero; omega
end Go.Proofs.Ytoahbekcegcghaa.SchemaPlain
