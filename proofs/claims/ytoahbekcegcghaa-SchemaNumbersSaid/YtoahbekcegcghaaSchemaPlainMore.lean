/- More plain laws of chapter 8's scalars: no text is of two kinds; signs ahead, signs behind. No program in sight. -/
import Derived.Test.YtoahbekcegcghaaSchemaPlain
namespace Go.Proofs.Ytoahbekcegcghaa.SchemaPlain
set_option linter.unusedSimpArgs false
set_option linter.unusedVariables false

theorem null_other (l : List UInt8) (h : nullS l = true) : boolS l = false ∧ intS l = false ∧ floatS l = false := by
  have k : ∀ x ∈ nulls, boolS x = false ∧ intS x = false ∧ floatS x = false := by decide +kernel
  exact k l (of_decide_eq_true h)
theorem bool_other (l : List UInt8) (h : boolS l = true) : intS l = false ∧ floatS l = false := by
  have k : ∀ x ∈ bools, intS x = false ∧ floatS x = false := by decide +kernel
  exact k l (of_decide_eq_true h)

/-- begins with a digit, and no 'o', no 'x' stands behind it -/
def plainDigits (l : List UInt8) : Prop := ∃ c r, l = c :: r ∧ dig c = true ∧ (r = [] ∨ ∃ d q, r = d :: q ∧ d.toNat ≠ 111 ∧ d.toNat ≠ 120)
theorem dig_range {c : UInt8} (h : dig c = true) : 48 ≤ c.toNat ∧ c.toNat ≤ 57 := by
  unfold dig at h; simp only [Bool.and_eq_true, decide_eq_true_eq] at h; exact h
theorem sgn_plain {l : List UInt8} (h : plainDigits l) : sgn l = l := by
  obtain ⟨c, r, rfl, hc, _⟩ := h
  have := dig_range hc
  simp only [sgn]; rw [if_neg (by omega)]
theorem pref_plain {l : List UInt8} (h : plainDigits l) : pref8 l = none ∧ pref16 l = none := by
  obtain ⟨c, r, rfl, hc, rfl | ⟨d, q, rfl, h1, h2⟩⟩ := h
  · exact ⟨rfl, rfl⟩
  · simp only [pref8, pref16]; rw [if_neg (by omega), if_neg (by omega)]; exact ⟨rfl, rfl⟩
theorem pref_sign (s : UInt8) (l : List UInt8) (hs : s.toNat ≠ 48) : pref8 (s :: l) = none ∧ pref16 (s :: l) = none := by
  cases l with
  | nil => exact ⟨rfl, rfl⟩
  | cons d q => simp only [pref8, pref16]; rw [if_neg (by omega), if_neg (by omega)]; exact ⟨rfl, rfl⟩
theorem int_plain {l : List UInt8} (h : plainDigits l) : intS l = allB dig l := by
  unfold intS; rw [sgn_plain h, (pref_plain h).1, (pref_plain h).2]; simp [ofO]
theorem int_signed (s : UInt8) (l : List UInt8) (hs : s.toNat = 45 ∨ s.toNat = 43) : intS (s :: l) = allB dig l := by
  unfold intS; rw [(pref_sign s l (by omega)).1, (pref_sign s l (by omega)).2]; simp [ofO, sgn, hs]
theorem not_nan (c : UInt8) (l : List UInt8) (h : c.toNat ≠ 46) : c :: l ∉ nans ∧ c :: l ∉ infs := by
  have hc : c ≠ 46 := fun e => h (by rw [e]; rfl)
  simp [nans, infs, hc]
theorem float_plain {l : List UInt8} (h : plainDigits l) : floatS l = numS l := by
  have e := sgn_plain h
  obtain ⟨c, r, rfl, hc, _⟩ := h
  have := dig_range hc
  have n := not_nan c r (by omega)
  unfold floatS; rw [e]; simp [n]
theorem float_signed (s : UInt8) {l : List UInt8} (hs : s.toNat = 45 ∨ s.toNat = 43) (h : plainDigits l) : floatS (s :: l) = numS l := by
  obtain ⟨c, r, rfl, hc, _⟩ := h
  have := dig_range hc
  have n := not_nan c r (by omega)
  have m := not_nan s (c :: r) (by omega)
  have e : sgn (s :: c :: r) = c :: r := by simp [sgn, hs]
  unfold floatS; rw [e]; simp [n, m]
theorem dig_no (c : UInt8) (h : c.toNat < 48) : dig c = false := by
  unfold dig; simp; omega
theorem int_twice (l : List UInt8) : intS (45 :: 45 :: l) = false := by
  rw [int_signed 45 _ (by decide)]; rfl
theorem num_odd (c : UInt8) (l : List UInt8) (h : dig c = false) (h' : c.toNat ≠ 46) : numS (c :: l) = false := by
  unfold numS
  simp [List.dropWhile_cons, List.takeWhile_cons, h, h', behindS]
theorem float_twice (l : List UInt8) : floatS (43 :: 45 :: l) = false := by
  have n := not_nan 45 l (by decide)
  have m := not_nan 43 (45 :: l) (by decide)
  have e : sgn (43 :: 45 :: l) = 45 :: l := by simp [sgn]
  unfold floatS; rw [e, num_odd 45 l (by decide) (by decide)]; simp [n, m]
theorem int_float {l : List UInt8} (h : plainDigits l) (hi : intS l = true) : floatS l = true := by
  rw [int_plain h] at hi
  rw [float_plain h]
  unfold allB at hi
  rw [all_drop] at hi
  simp only [Bool.and_eq_true, List.isEmpty_iff] at hi
  have t := takeDrop (p := dig) l
  unfold numS
  rw [hi.2] at *
  simp only [decide_eq_true_eq]
  have : l ≠ [] := by intro e; rw [e] at hi; simp at hi
  have := List.length_pos_iff.mpr this
  simp at t; omega
theorem null_more (l : List UInt8) (h : nullS l = true) (h' : l ≠ []) : nullS (l ++ [120]) = false := by
  have k : ∀ x ∈ nulls, x ≠ [] → nullS (x ++ [120]) = false := by decide +kernel
  exact k l (of_decide_eq_true h) h'
theorem last_no {L : List (List UInt8)} (h : ∀ x ∈ L, x.getLast? ≠ some 32) (l : List UInt8) : l ++ [32] ∉ L := fun m => h _ m (by simp)
theorem null_blank (l : List UInt8) : nullS (l ++ [32]) = false := by
  unfold nullS; rw [decide_eq_false_iff_not]; exact last_no (by decide +kernel) l
theorem bool_blank (l : List UInt8) : boolS (l ++ [32]) = false := by
  unfold boolS; rw [decide_eq_false_iff_not]; exact last_no (by decide +kernel) l
theorem allB_last {p : UInt8 → Bool} (hp : p 32 = false) (l : List UInt8) (h : l = [] ∨ l.getLast? = some 32) : allB p l = false := by
  rcases h with rfl | h
  · rfl
  · unfold allB
    have hm : (32 : UInt8) ∈ l := List.mem_of_getLast? h
    have : l.all p = false := by rw [List.all_eq_false]; exact ⟨32, hm, by simp [hp]⟩
    rw [this]; simp
theorem last_drop {l : List UInt8} (c : UInt8) (h : (c :: l).getLast? = some 32) : l = [] ∨ l.getLast? = some 32 := by
  cases l with
  | nil => exact .inl rfl
  | cons d q => right; rw [List.getLast?_cons_cons] at h; exact h
theorem int_blank (l : List UInt8) : intS (l ++ [32]) = false := by
  have hl : (l ++ [32]).getLast? = some 32 := by simp
  generalize hx : l ++ [32] = x at *
  have h1 : allB dig (sgn x) = false := by
    cases x with
    | nil => rfl
    | cons c q =>
      simp only [sgn]
      split
      · exact allB_last (by decide) _ (last_drop c hl)
      · exact allB_last (by decide) _ (.inr hl)
  have h2 : ∀ p : UInt8 → Bool, p 32 = false → ofO p (pref8 x) = false ∧ ofO p (pref16 x) = false := by
    intro p hp
    match x, hl with
    | [], _ => exact ⟨rfl, rfl⟩
    | [a], _ => exact ⟨rfl, rfl⟩
    | a :: b :: r, hl =>
      have h := last_drop a hl
      have h' : r = [] ∨ r.getLast? = some 32 := by
        rcases h with h | h
        · cases h
        · exact last_drop b h
      have := allB_last hp r h'
      simp only [pref8, pref16]
      constructor <;> split <;> simp [ofO, this]
  unfold intS; rw [h1, (h2 oct (by decide)).1, (h2 hexd (by decide)).2]; rfl
theorem float_blank (l : List UInt8) : floatS (32 :: l) = false := by
  have n := not_nan 32 l (by decide)
  have e : sgn (32 :: l) = 32 :: l := by simp [sgn]
  unfold floatS; rw [e, num_odd 32 l (by decide) (by decide)]; simp [n]
end Go.Proofs.Ytoahbekcegcghaa.SchemaPlain
