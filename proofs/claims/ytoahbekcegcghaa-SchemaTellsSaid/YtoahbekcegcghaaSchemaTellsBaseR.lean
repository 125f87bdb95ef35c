/- What the reference's functions of chapter 8 compute, as the plain words of SchemaPlain say it, at every text. -/
import Derived.Test.YtoahbekcegcghaaSchemaTellsBase
namespace Go.Proofs.Ytoahbekcegcghaa.BaseSchemaTells
open Go.RowKit Go.Proofs.Ytoahbekcegcghaa.XSchemaTells Go.Proofs.YtoahbekcegcghaaW.PrintWords Go.Proofs.YtoahbekcegcghaaW.PrintLast Go.Proofs.Ytoahbekcegcghaa.SchemaPlain
set_option linter.unusedSimpArgs false
set_option linter.unusedVariables false

theorem one_loop (l : List ByteArray) (a : ByteArray) (hl : l.length ≤ 1000) : ∀ d k i, l.length = i + d → d < k →
    scholiumref08_one.l0 k a l (l.length : Int) (i : Int) = some (decide (B a ∈ (l.drop i).map B))
  | 0, k, i, h, hk => by
    obtain ⟨k, rfl⟩ : ∃ m, k = m + 1 := ⟨k - 1, by omega⟩
    simp only [scholiumref08_one.l0]; rw [if_neg (by omega), List.drop_of_length_le (by omega)]; simp
  | d + 1, k, i, h, hk => by
    obtain ⟨k, rfl⟩ : ∃ m, k = m + 1 := ⟨k - 1, by omega⟩
    have hi : i < l.length := by omega
    have hr : rdOf ByteArray.empty l (i : Int) = l[i]'hi := by simp [rdOf, List.getD_eq_getElem?_getD, List.getElem?_eq_getElem hi]
    have hd : l.drop i = l[i]'hi :: l.drop (i + 1) := List.drop_eq_getElem_cons hi
    simp only [scholiumref08_one.l0]
    rw [if_pos (by omega), if_pos (by omega), if_pos (by omega), hr, B_toList, B_toList, hd, List.map_cons]
    by_cases e : B (l[i]'hi) = B a
    · rw [if_pos e, e]; simp
    · have hw : wrap64 ((i : Int) + 1) = ((i + 1 : Nat) : Int) := by unfold wrap64; omega
      rw [if_neg e, hw, one_loop l a hl d k (i + 1) (by omega) (by omega)]
      congr 1
      rw [decide_eq_decide, List.mem_cons]
      exact ⟨.inr, fun h => h.resolve_left fun e' => e e'.symm⟩
theorem one_spec (l : List ByteArray) (a : ByteArray) (hl : l.length ≤ 1000) (k : Nat) (hk : l.length < k) : scholiumref08_one.f k a l = some (decide (B a ∈ l.map B)) := by
  unfold scholiumref08_one.f
  have h := one_loop l a hl l.length k 0 (by omega) hk
  rw [List.drop_zero] at h
  exact h
theorem rNull_spec (s : ByteArray) (k : Nat) (hk : 5 < k) : scholiumref08_Null.f k s = some (nullS (B s)) := by
  unfold scholiumref08_Null.f
  rw [one_spec _ _ (by simp) k (by simpa using hk)]
  rfl
theorem rBool_spec (s : ByteArray) (k : Nat) (hk : 6 < k) : scholiumref08_Bool.f k s = some (boolS (B s)) := by
  unfold scholiumref08_Bool.f
  rw [one_spec _ _ (by simp) k (by simpa using hk)]
  rfl
theorem sign_spec (s : ByteArray) (hs : s.size ≤ 9223372036854775807) : ∃ t, scholiumref08_sign.f s = some t ∧ B t = sgn (B s) ∧ t.size ≤ s.size := by
  have e : scholiumref08_sign.f s = schema_unsigned.f s := rfl
  rw [e]; exact unsigned_spec s hs

def val (c : Int) : Int := if 48 ≤ c ∧ c ≤ 57 then c - 48 else if 97 ≤ c ∧ c ≤ 102 then c - 97 + 10 else if 65 ≤ c ∧ c ≤ 70 then c - 65 + 10 else 99
theorem digits_loop (s : ByteArray) (base : Int) (hs : s.size ≤ 9223372036854775806) : ∀ d k i, s.size = i + d → 4 * d < k →
    scholiumref08_digits.l0 k s base (i : Int) = some (((i + (((B s).drop i).takeWhile (fun c => decide (val (c.toNat : Int) < base))).length : Nat)) : Int)
  | 0, k, i, h, hk => by
    obtain ⟨k, rfl⟩ : ∃ m, k = m + 1 := ⟨k - 1, by omega⟩
    simp only [scholiumref08_digits.l0]; rw [if_neg (by omega), List.drop_of_length_le (by rw [← B_size]; omega)]; simp
  | d + 1, k, i, h, hk => by
    have hi : i < s.size := by omega
    have ih := fun k hk => digits_loop s base hs d k (i + 1) (by omega) hk
    have hw : wrap64 ((i : Int) + 1) = ((i + 1 : Nat) : Int) := by unfold wrap64; omega
    have hb := bt_eq s i hi
    obtain ⟨k, rfl⟩ : ∃ m, k = m + 4 := ⟨k - 4, by omega⟩
    rw [B_drop s i hi]
    simp only [List.takeWhile_cons]
    have hc : (s[i]'hi).toNat < 256 := (s[i]'hi).toNat_lt
    simp only [scholiumref08_digits.l0]
    rw [if_pos (by omega), if_pos (by omega), hb]
    generalize (s[i]'hi).toNat = c at *
    have fin : ∀ (k' : Nat) (v : Int), 4 * d < k' → val (c : Int) = v → (if v ≥ base then some (i : Int) else scholiumref08_digits.l0 k' s base (wrap64 ((i : Int) + 1))) =
        some (((i + (if decide (val (c : Int) < base) = true then s[i]'hi :: List.takeWhile (fun c => decide (val (c.toNat : Int) < base)) ((B s).drop (i + 1)) else []).length : Nat)) : Int) := by
      intro k' v hk' hv
      by_cases hlt : v < base
      · rw [if_neg (by omega), hw, ih k' hk', if_pos (by rw [hv]; simpa using hlt), List.length_cons]
        congr 1; omega
      · rw [if_pos (by omega), if_neg (by rw [hv]; simpa using hlt)]; simp
    by_cases h1 : 48 ≤ c
    · rw [if_pos (by omega)]
      simp only [scholiumref08_digits.j1]
      by_cases h2 : c ≤ 57
      · rw [if_pos (decide_eq_true (by omega))]
        have e : ((c : Int) - 48) % 256 = (c : Int) - 48 := by omega
        rw [e]; exact fin _ _ (by omega) (by unfold val; rw [if_pos (by omega)])
      · rw [if_neg (by simp; omega)]
        by_cases h3 : 97 ≤ c
        · rw [if_pos (by omega)]
          simp only [scholiumref08_digits.j2]
          by_cases h4 : c ≤ 102
          · rw [if_pos (decide_eq_true (by omega))]
            have e : ((c : Int) - 97) % 256 = (c : Int) - 97 := by omega
            rw [e]; exact fin _ _ (by omega) (by unfold val; rw [if_neg (by omega), if_pos (by omega)])
          · rw [if_neg (by simp; omega), if_pos (by omega)]
            simp only [scholiumref08_digits.j3]
            rw [if_neg (by simp; omega)]; exact fin _ _ (by omega) (by unfold val; rw [if_neg (by omega), if_neg (by omega), if_neg (by omega)])
        · rw [if_neg (by omega)]
          simp only [scholiumref08_digits.j2]
          rw [if_neg (by simp)]
          by_cases h5 : 65 ≤ c
          · rw [if_pos (by omega)]
            simp only [scholiumref08_digits.j3]
            by_cases h6 : c ≤ 70
            · rw [if_pos (decide_eq_true (by omega))]
              have e : ((c : Int) - 65) % 256 = (c : Int) - 65 := by omega
              rw [e]; exact fin _ _ (by omega) (by unfold val; rw [if_neg (by omega), if_neg (by omega), if_pos (by omega)])
            · rw [if_neg (by simp; omega)]; exact fin _ _ (by omega) (by unfold val; rw [if_neg (by omega), if_neg (by omega), if_neg (by omega)])
          · rw [if_neg (by omega)]
            simp only [scholiumref08_digits.j3]
            rw [if_neg (by simp)]; exact fin _ _ (by omega) (by unfold val; rw [if_neg (by omega), if_neg (by omega), if_neg (by omega)])
    · rw [if_neg (by omega)]
      simp only [scholiumref08_digits.j1]
      rw [if_neg (by simp), if_neg (by omega)]
      simp only [scholiumref08_digits.j2]
      rw [if_neg (by simp), if_neg (by omega)]
      simp only [scholiumref08_digits.j3]
      rw [if_neg (by simp)]; exact fin _ _ (by omega) (by unfold val; rw [if_neg (by omega), if_neg (by omega), if_neg (by omega)])

theorem val10 : (fun c : UInt8 => decide (val (c.toNat : Int) < 10)) = dig := funext fun c => by
  unfold val dig; rw [Bool.eq_iff_iff]; simp only [decide_eq_true_eq, Bool.and_eq_true]; repeat' split
  all_goals omega
theorem val8 : (fun c : UInt8 => decide (val (c.toNat : Int) < 8)) = oct := funext fun c => by
  unfold val oct; rw [Bool.eq_iff_iff]; simp only [decide_eq_true_eq, Bool.and_eq_true]; repeat' split
  all_goals omega
theorem val16 : (fun c : UInt8 => decide (val (c.toNat : Int) < 16)) = hexd := funext fun c => by
  unfold val hexd dig; rw [Bool.eq_iff_iff]; simp only [decide_eq_true_eq, Bool.and_eq_true, Bool.or_eq_true]; repeat' split
  all_goals omega
theorem digits_spec (s : ByteArray) (base : Int) (hs : s.size ≤ 9223372036854775806) (k : Nat) (hk : 4 * s.size < k) :
    scholiumref08_digits.f k s base = some ((((B s).takeWhile (fun c => decide (val (c.toNat : Int) < base))).length : Nat) : Int) := by
  unfold scholiumref08_digits.f
  have h := digits_loop s base hs s.size k 0 (by omega) hk
  rw [List.drop_zero, Nat.zero_add] at h
  exact h
theorem allB_len (p : UInt8 → Bool) (l : List UInt8) (h : 0 < l.length) : allB p l = decide (((l.takeWhile p).length : Int) = (l.length : Int)) := by
  unfold allB
  rw [all_take]
  cases l with
  | nil => simp at h
  | cons c q => simp only [List.isEmpty_cons, Bool.not_false, Bool.true_and, decide_eq_decide]; omega
theorem beq_dec (a b : Int) : (a == b) = decide (a = b) := rfl
theorem drop2 (s : ByteArray) : B (s.extract 2 s.size) = (B s).drop 2 := Lib.extract_to_end s 2
theorem take2 (s : ByteArray) : B (s.extract 0 2) = (B s).take 2 := by
  unfold B; exact (Lib.extract_data s 0 2).trans (by rw [List.drop_zero, Nat.sub_zero])

theorem rj1_spec (s : ByteArray) (hs : s.size ≤ 1000000) (k : Nat) (hk : 4 * s.size + 1 < k) (b : Bool) (hb : b = decide (2 < s.size ∧ (B s).take 2 = [48, 111])) :
    scholiumref08_Int.j1 k s b = some (ofO oct (pref8 (B s)) || ofO hexd (pref16 (B s))) := by
  obtain ⟨k, rfl⟩ : ∃ m, k = m + 1 := ⟨k - 1, by omega⟩
  have hz : (s.extract 2 s.size).size = s.size - 2 := by rw [B_size, drop2, List.length_drop, ← B_size]
  have d8 := digits_spec (s.extract 2 s.size) 8 (by omega) k (by omega)
  have d16 := digits_spec (s.extract 2 s.size) 16 (by omega) k (by omega)
  rw [val8, drop2] at d8
  rw [val16, drop2] at d16
  simp only [scholiumref08_Int.j1]
  have hw : 2 < s.size → wrap64 ((s.size : Int) - 2) = (((B s).drop 2).length : Int) := by
    intro h; rw [List.length_drop, ← B_size]; unfold wrap64; omega
  have sz := B_size s
  by_cases h2 : 2 < s.size
  · match hB : B s, sz with
    | [], z => rw [z] at h2; simp at h2
    | [_], z => rw [z] at h2; simp at h2
    | [_, _], z => rw [z] at h2; simp at h2
    | a :: c :: e :: r, z =>
      have hw' := hw h2
      clear hw
      have q2 : (2 : Int) ≤ (s.size : Int) := by omega
      have q3 : (s.size : Int) > 2 := by omega
      rw [hB] at hb d8 d16 hw'
      simp only [List.drop_succ_cons, List.drop_zero, List.take_succ_cons, List.take_zero] at hb d8 d16 hw'
      have t2 := take2 s
      rw [hB] at t2
      simp only [List.take_succ_cons, List.take_zero] at t2
      simp only [h2, true_and] at hb
      by_cases h8 : a = 48 ∧ c = 111
      · obtain ⟨rfl, rfl⟩ := h8
        have : b = true := by rw [hb]; simp
        subst this
        rw [if_pos rfl, if_pos q2, d8, Option.bind_some, hw', beq_dec, ← allB_len oct (e :: r) (by simp)]
        simp [pref8, pref16, ofO]
      · have hb' : b = false := by rw [hb]; simp only [decide_eq_false_iff_not, List.cons.injEq, and_true]; exact h8
        subst hb'
        have h8' : ¬ (a.toNat = 48 ∧ c.toNat = 111) := fun ⟨x, y⟩ => h8 ⟨UInt8.toNat_inj.mp x, UInt8.toNat_inj.mp y⟩
        rw [if_neg (by simp), if_pos q3, if_pos (by decide), if_pos q2, B_toList, t2]
        by_cases h16 : a = 48 ∧ c = 120
        · obtain ⟨rfl, rfl⟩ := h16
          rw [if_pos rfl, d16, Option.bind_some, hw', beq_dec, ← allB_len hexd (e :: r) (by simp)]
          simp [pref8, pref16, ofO]
        · have h16' : ¬ (a.toNat = 48 ∧ c.toNat = 120) := fun ⟨x, y⟩ => h16 ⟨UInt8.toNat_inj.mp x, UInt8.toNat_inj.mp y⟩
          rw [if_neg (by simp only [List.cons.injEq, and_true]; exact h16)]
          simp only [pref8, pref16, h8', h16', if_false, ofO]; rfl
  · clear hw
    have hb' : b = false := by rw [hb]; simp [h2]
    subst hb'
    rw [if_neg (by simp), if_neg (by omega)]
    match hB : B s, sz with
    | [], z => rfl
    | [_], z => rfl
    | [a, c], z => simp only [pref8, pref16]; split <;> split <;> rfl
    | a :: c :: e :: r, z => exact absurd (by rw [z]; simp) h2
theorem rInt_spec (s : ByteArray) (hs : s.size ≤ 1000000) (k : Nat) (hk : 4 * s.size + 2 < k) : scholiumref08_Int.f k s = some (intS (B s)) := by
  obtain ⟨u, hu, eu, zu⟩ := sign_spec s (by omega)
  obtain ⟨k, rfl⟩ : ∃ m, k = m + 1 := ⟨k - 1, by omega⟩
  have j0 : ∀ b, scholiumref08_Int.j0 (k + 1) s b = some (b || (ofO oct (pref8 (B s)) || ofO hexd (pref16 (B s)))) := by
    intro b
    simp only [scholiumref08_Int.j0]
    cases b with
    | true => simp
    | false =>
      rw [if_neg (by simp), Bool.false_or]
      by_cases h2 : 2 < s.size
      · rw [if_pos (by omega), if_pos (by omega), if_pos (by omega)]
        exact rj1_spec s hs k (by omega) _ (by rw [B_toList, take2]; simp only [h2, true_and]; exact Bool.eq_iff_iff.mpr (by rw [beq_iff_eq, decide_eq_true_iff]))
      · rw [if_neg (by omega)]; exact rj1_spec s hs k (by omega) _ (by simp [h2])
  unfold scholiumref08_Int.f intS
  rw [hu, Option.bind_some, B_toList, j0, Bool.or_assoc]
  by_cases h : B u = []
  · rw [if_pos h, ← eu, h]; rfl
  · have hl : 0 < (B u).length := List.length_pos_iff.mpr h
    rw [if_neg h, digits_spec u 10 (by omega) _ (by omega), Option.bind_some, j0, val10, B_size, beq_dec, ← allB_len dig (B u) hl, eu]

theorem rfj2_spec (s : ByteArray) (hs : s.size ≤ 1000000) (k i : Nat) (hk : 4 * s.size + 1 < k) (hi : i < s.size) :
    scholiumref08_Float.j2 k s (i : Int) (decide ((s[i]'hi).toNat ≠ 101) && decide ((s[i]'hi).toNat ≠ 69)) = some (expS ((B s).drop i)) := by
  obtain ⟨k, rfl⟩ : ∃ m, k = m + 1 := ⟨k - 1, by omega⟩
  rw [B_drop s i hi]
  have hx : B (s.extract (i + 1) s.size) = (B s).drop (i + 1) := Lib.extract_to_end s (i + 1)
  have hz : (s.extract (i + 1) s.size).size ≤ s.size := by rw [B_size (s.extract (i + 1) s.size), hx, List.length_drop, ← B_size]; omega
  obtain ⟨u, hu, eu, zu⟩ := sign_spec (s.extract (i + 1) s.size) (by omega)
  simp only [scholiumref08_Float.j2, expS]
  have hw : wrap64 ((i : Int) + 1) = ((i + 1 : Nat) : Int) := by unfold wrap64; omega
  rw [hw]; clear hw
  rw [Int.toNat_natCast, hu, Option.bind_some, B_toList, ← hx, ← eu]
  by_cases h : (s[i]'hi).toNat = 101 ∨ (s[i]'hi).toNat = 69
  · rw [if_neg (by simp; omega), if_pos (by omega), if_pos (by omega)]
    have e : (decide ((s[i]'hi).toNat = 101) || decide ((s[i]'hi).toNat = 69)) = true := by simpa using h
    rw [e, Bool.true_and]
    by_cases h0 : B u = []
    · rw [if_pos h0, h0]; rfl
    · rw [if_neg h0, digits_spec u 10 (by omega) k (by omega), Option.bind_some, val10, B_size, beq_dec, ← allB_len dig (B u) (List.length_pos_iff.mpr h0)]
  · have h1 : (s[i]'hi).toNat ≠ 101 := fun e => h (.inl e)
    have h2 : (s[i]'hi).toNat ≠ 69 := fun e => h (.inr e)
    rw [if_pos (by simp [h1, h2])]; simp [h1, h2]
theorem rfj1_spec (s : ByteArray) (hs : s.size ≤ 1000000) (k i : Nat) (hk : 4 * s.size + 2 < k) (hi : i ≤ s.size) : scholiumref08_Float.j1 k s (i : Int) = some (expS ((B s).drop i)) := by
  obtain ⟨k, rfl⟩ : ∃ m, k = m + 1 := ⟨k - 1, by omega⟩
  simp only [scholiumref08_Float.j1]
  by_cases h : i = s.size
  · rw [if_pos (by omega), List.drop_of_length_le (by rw [← B_size]; omega)]; rfl
  · have hlt : i < s.size := by omega
    have hb := bt_eq s i hlt
    have hj := rfj2_spec s hs k i (by omega) hlt
    rw [if_neg (by omega), if_pos (by omega), if_pos (by omega), hb, ← hj]
    by_cases h1 : (s[i]'hlt).toNat = 101
    · rw [if_pos (by omega)]; simp [h1]
    · rw [if_neg (by omega)]
      congr 1
      rw [Bool.eq_iff_iff]; simp [h1]; omega
theorem takeWhile_dropWhile (p : UInt8 → Bool) : ∀ l : List UInt8, l.dropWhile p = l.drop (l.takeWhile p).length
  | [] => rfl
  | c :: t => by
    by_cases h : p c = true
    · simp [List.takeWhile_cons, List.dropWhile_cons, h, takeWhile_dropWhile p t]
    · simp [List.takeWhile_cons, List.dropWhile_cons, h]
set_option maxHeartbeats 1000000 in
theorem rFloat_spec (s : ByteArray) (hs : s.size ≤ 1000000) (k : Nat) (hk : 4 * s.size + 10 < k) : scholiumref08_Float.f k s = some (floatS (B s)) := by
  obtain ⟨u, hu, eu, zu⟩ := sign_spec s (by omega)
  unfold scholiumref08_Float.f floatS
  rw [one_spec _ _ (by simp) k (by simp; omega), Option.bind_some]
  have e1 : decide (B s ∈ List.map B [(⟨#[46, 110, 97, 110]⟩ : ByteArray), ⟨#[46, 78, 97, 78]⟩, ⟨#[46, 78, 65, 78]⟩]) = decide (B s ∈ nans) := rfl
  rw [e1]
  cases decide (B s ∈ nans) with
  | true => simp
  | false =>
    simp only [Bool.false_eq_true, if_false, Bool.false_or]
    rw [hu, Option.bind_some, one_spec _ _ (by simp) k (by simp; omega), Option.bind_some]
    have e2 : decide (B u ∈ List.map B [(⟨#[46, 105, 110, 102]⟩ : ByteArray), ⟨#[46, 73, 110, 102]⟩, ⟨#[46, 73, 78, 70]⟩]) = decide (sgn (B s) ∈ infs) := by rw [eu]; rfl
    rw [e2]
    cases decide (sgn (B s) ∈ infs) with
    | true => simp
    | false =>
      simp only [Bool.false_eq_true, if_false, Bool.false_or]
      rw [digits_spec u 10 (by omega) k (by omega), Option.bind_some, val10, ← eu]
      have td := takeDrop (p := dig) (B u)
      have dw := takeWhile_dropWhile dig (B u)
      have sz := B_size u
      unfold numS
      generalize hn : ((B u).takeWhile dig).length = n at *
      obtain ⟨k, rfl⟩ : ∃ m, k = m + 1 := ⟨k - 1, by omega⟩
      by_cases hlt : n < u.size
      · rw [if_pos (by omega), if_pos (by omega), bt_eq u n hlt]
        have hd := B_drop u n hlt
        rw [hd] at dw
        simp only [dw, scholiumref08_Float.j0]
        by_cases h46 : (u[n]'hlt).toNat = 46
        · have hx : B (u.extract (n + 1) u.size) = (B u).drop (n + 1) := Lib.extract_to_end u (n + 1)
          have hz : (u.extract (n + 1) u.size).size = u.size - (n + 1) := by rw [B_size (u.extract (n + 1) u.size), hx, List.length_drop, ← B_size]
          have hw : wrap64 ((n : Int) + 1) = ((n + 1 : Nat) : Int) := by unfold wrap64; omega
          rw [if_pos (by rw [h46]; rfl), hw]; clear hw
          rw [if_pos (by omega), if_pos (by omega), Int.toNat_natCast, digits_spec (u.extract (n + 1) u.size) 10 (by omega) k (by omega), Option.bind_some, val10, hx]
          simp only [h46, if_true]
          have td2 := takeDrop (p := dig) ((B u).drop (n + 1))
          have dw2 := takeWhile_dropWhile dig ((B u).drop (n + 1))
          have dl : ((B u).drop (n + 1)).length = u.size - (n + 1) := by rw [List.length_drop, ← B_size]
          generalize hm : (((B u).drop (n + 1)).takeWhile dig).length = m at *
          have hw2 : wrap64 (((n + 1 : Nat) : Int) + (m : Int)) = ((n + 1 + m : Nat) : Int) := by unfold wrap64; omega
          rw [hw2]; clear hw2
          rw [rfj1_spec u (by omega) k (n + 1 + m) (by omega) (by omega), dw2, List.drop_drop]
          unfold behindS
          by_cases hn0 : n = 0
          · subst hn0
            rw [if_pos (by rfl)]
            by_cases hm0 : m = 0
            · subst hm0; rw [if_pos (by rfl), if_pos (by rfl)]
            · rw [if_neg (by omega), if_neg (by omega)]
          · rw [if_neg (by omega), if_neg (by omega)]
        · have h46' : (((u[n]'hlt).toNat : Int) == 46) = false := by rw [beq_eq_false_iff_ne]; omega
          rw [h46', if_neg (by simp), rfj1_spec u (by omega) k n (by omega) (by omega), hd]
          simp only [h46, if_false, behindS]
          by_cases hn0 : n = 0
          · subst hn0; rw [if_pos (by rfl), if_pos rfl]
          · rw [if_neg (by omega), if_neg hn0]
      · have hnl : n = u.size := by omega
        rw [if_neg (by omega)]
        rw [List.drop_of_length_le (by omega)] at dw
        simp only [dw, scholiumref08_Float.j0, Bool.false_eq_true, if_false]
        rw [rfj1_spec u (by omega) k n (by omega) (by omega), List.drop_of_length_le (by omega)]
        by_cases hn0 : n = 0
        · subst hn0; rw [if_pos (by rfl)]; rfl
        · rw [if_neg (by omega)]; simp [expS]; omega
theorem rResolve_spec (s : ByteArray) (hs : s.size ≤ 1000000) (k : Nat) (hk : 4 * s.size + 10 < k) : ∃ t, scholiumref08_Resolve.f k s = some t ∧ B t = resolveS (B s) := by
  unfold scholiumref08_Resolve.f resolveS
  rw [rNull_spec s k (by omega), Option.bind_some, rBool_spec s k (by omega), Option.bind_some, rInt_spec s hs k (by omega), Option.bind_some, rFloat_spec s hs k hk, Option.bind_some]
  cases nullS (B s)
  · cases boolS (B s)
    · cases intS (B s)
      · cases floatS (B s)
        · exact ⟨_, rfl, rfl⟩
        · exact ⟨_, rfl, rfl⟩
      · exact ⟨_, rfl, rfl⟩
    · exact ⟨_, rfl, rfl⟩
  · exact ⟨_, rfl, rfl⟩
end Go.Proofs.Ytoahbekcegcghaa.BaseSchemaTells
