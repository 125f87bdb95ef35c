/- What the program's functions of chapter 8 compute, as the plain words of SchemaPlain say it, at every text. -/
import Derived.Test.YtoahbekcegcghaaXSchemaFormsx
import Derived.Test.YtoahbekcegcghaaSchemaPlain
import Derived.Lib.Strings
import Derived.Lib.IndexBytes
import Derived.Lib.SmallJoins
namespace Go.Proofs.Ytoahbekcegcghaa.BaseSchemaForms
open Go.RowKit Go.Proofs.Ytoahbekcegcghaa.XSchemaForms Go.Proofs.YtoahbekcegcghaaW.PrintWords Go.Proofs.YtoahbekcegcghaaW.PrintLast Go.Proofs.Ytoahbekcegcghaa.SchemaPlain
set_option linter.unusedSimpArgs false
set_option linter.unusedVariables false

/-- a text's bytes -/
def B (s : ByteArray) : List UInt8 := s.data.toList
theorem B_toList (s : ByteArray) : s.toList = B s := Lib.toList_data s
theorem B_size (s : ByteArray) : s.size = (B s).length := by unfold B; rw [Array.length_toList]; rfl
theorem B_get (s : ByteArray) (i : Nat) (h : i < s.size) : (B s)[i]'(by rw [← B_size]; exact h) = s[i]'h := by
  unfold B; simp; rfl
theorem B_drop (s : ByteArray) (i : Nat) (h : i < s.size) : (B s).drop i = s[i]'h :: (B s).drop (i + 1) := by
  rw [List.drop_eq_getElem_cons (by rw [← B_size]; exact h), B_get s i h]
theorem bt_eq (s : ByteArray) (i : Nat) (h : i < s.size) : bt s (i : Int) = ((s[i]'h).toNat : Int) := by
  rw [← bt_at s i (by simpa using h)]; simp

theorem runeIn_spec (set : ByteArray) (hset : ∀ c ∈ B set, c.toNat < 128) (c : Nat) : ∀ b i, set.size ≤ i + b →
    runeIn set b i (c : Int) = decide (∃ d ∈ (B set).drop i, d.toNat = c)
  | 0, i, h => by
    rw [List.drop_of_length_le (by rw [← B_size]; omega)]; simp [runeIn]
  | b + 1, i, h => by
    unfold runeIn
    by_cases hi : i < set.size
    · rw [if_pos hi]
      have hc : (set[i]'hi).toNat < 128 := hset _ (by rw [← B_get set i hi]; exact List.getElem_mem _)
      rw [decode_ascii set i hi hc, runeIn_spec set hset c b (i + 1) (by omega), B_drop set i hi, Bool.eq_iff_iff]
      simp only [Bool.or_eq_true, beq_iff_eq, decide_eq_true_eq, List.mem_cons, exists_eq_or_imp]
      constructor
      · rintro (h | h)
        · exact .inl (by omega)
        · exact .inr h
      · rintro (h | h)
        · exact .inl (by omega)
        · exact .inr h
    · rw [if_neg hi, List.drop_of_length_le (by rw [← B_size]; omega)]; simp

theorem cutl_spec (s set : ByteArray) (hset : ∀ c ∈ B set, c.toNat < 128) : ∀ b i, s.size ≤ i + b →
    B (cutl s set b i) = ((B s).drop i).dropWhile (fun c => decide (c ∈ B set))
  | 0, i, h => by
    rw [List.drop_of_length_le (by rw [← B_size]; omega)]; simp [cutl, B]
  | b + 1, i, h => by
    unfold cutl
    by_cases hi : i < s.size
    · rw [if_pos hi, runeIn_spec set hset _ set.size 0 (by omega), List.drop_zero, B_drop s i hi, List.dropWhile_cons]
      by_cases hc : (s[i]'hi).toNat < 128
      · rw [decode_ascii s i hi hc]
        have e : decide (∃ d ∈ B set, d.toNat = (s[i]'hi).toNat) = decide (s[i]'hi ∈ B set) := by
          rw [decide_eq_decide]
          constructor
          · rintro ⟨d, hd, e⟩; rw [← UInt8.toNat_inj.mp e]; exact hd
          · exact fun h => ⟨_, h, rfl⟩
        simp only [e]
        by_cases hm : s[i]'hi ∈ B set
        · rw [if_pos (by simpa using hm), if_pos (by simpa using hm)]; exact cutl_spec s set hset b (i + 1) (by omega)
        · rw [if_neg (by simpa using hm), if_neg (by simpa using hm), ← B_drop s i hi]; exact Lib.extract_to_end s i
      · have hd := (decode_high s i hi (by omega)).1
        rw [if_neg, if_neg, ← B_drop s i hi]
        · exact Lib.extract_to_end s i
        · intro h; have := hset _ (of_decide_eq_true h); omega
        · intro h; obtain ⟨d, hm, e⟩ := of_decide_eq_true h; have := hset _ hm; omega
    · rw [if_neg hi, List.drop_of_length_le (by rw [← B_size]; omega)]; simp [B]

theorem run_spec (s set : ByteArray) (hset : ∀ c ∈ B set, c.toNat < 128) (hs : s.size ≤ 9223372036854775807) :
    ∃ t, schema_run.f s set = some (t, (((B s).takeWhile (fun c => decide (c ∈ B set))).length : Int)) ∧ B t = (B s).dropWhile (fun c => decide (c ∈ B set)) := by
  refine ⟨cutl s set s.size 0, ?_, by rw [cutl_spec s set hset _ _ (by omega), List.drop_zero]⟩
  have e := cutl_spec s set hset s.size 0 (by omega)
  rw [List.drop_zero] at e
  have h := takeDrop (p := fun c => decide (c ∈ B set)) (B s)
  rw [← e, ← B_size, ← B_size] at h
  unfold schema_run.f schema_cutLeft.f
  simp only [Option.bind_some]
  congr 2
  unfold wrap64
  omega

theorem all_spec (s set : ByteArray) (hset : ∀ c ∈ B set, c.toNat < 128) (hs : s.size ≤ 9223372036854775807) :
    schema_all.f s set = some (allB (fun c => decide (c ∈ B set)) (B s)) := by
  obtain ⟨t, h1, h2⟩ := run_spec s set hset hs
  unfold schema_all.f
  rw [h1]
  simp only [Option.bind_some, B_toList, h2]
  unfold allB
  rw [all_drop]
  by_cases h : (List.takeWhile (fun c => decide (c ∈ B set)) (B s)) = []
  · rw [h]
    simp only [List.length_nil]
    cases hb : B s with
    | nil => simp
    | cons c q =>
      rw [hb] at h
      simp only [List.takeWhile_cons] at h
      have hc : ¬ c ∈ B set := by intro hc; simp [hc] at h
      simp only [List.dropWhile_cons, hc, decide_false]; simp
  · have : 0 < (List.takeWhile (fun c => decide (c ∈ B set)) (B s)).length := List.length_pos_iff.mpr h
    rw [if_pos (by omega)]
    have hne : B s ≠ [] := by intro e; rw [e] at h; exact h rfl
    cases hb : B s with
    | nil => exact absurd hb hne
    | cons c q => cases List.dropWhile (fun c => decide (c ∈ B set)) (c :: q) <;> rfl

theorem unsigned_spec (s : ByteArray) (hs : s.size ≤ 9223372036854775807) : ∃ t, schema_unsigned.f s = some t ∧ B t = sgn (B s) ∧ t.size ≤ s.size := by
  unfold schema_unsigned.f
  rw [B_toList]
  by_cases h : B s = []
  · rw [if_pos h]; exact ⟨s, rfl, by rw [h]; rfl, Nat.le_refl _⟩
  · have hl : 0 < s.size := by rw [B_size]; exact List.length_pos_iff.mpr h
    rw [if_neg h, if_pos (by omega)]
    have e : bt s 0 = ((s[0]'hl).toNat : Int) := bt_eq s 0 hl
    have hd := B_drop s 0 hl
    rw [List.drop_zero] at hd
    have hx : B (s.extract 1 s.size) = (B s).drop 1 := Lib.extract_to_end s 1
    have hz : (s.extract 1 s.size).size ≤ s.size := by rw [B_size, hx, B_size]; simp
    rw [e, hd]
    by_cases h1 : (s[0]'hl).toNat = 45
    · rw [if_pos (by omega), if_pos (by omega)]; exact ⟨_, rfl, by rw [hx]; simp [sgn, h1], hz⟩
    · rw [if_neg (by omega)]
      by_cases h2 : (s[0]'hl).toNat = 43
      · rw [if_pos (by omega), if_pos (by omega)]; exact ⟨_, rfl, by rw [hx]; simp [sgn, h2], hz⟩
      · rw [if_neg (by omega)]; exact ⟨s, rfl, by simp only [sgn, h1, h2, or_self, if_false]; rw [← hd], Nat.le_refl _⟩

/-- a text in a list of texts -/
theorem index_spec (l : List ByteArray) (a : ByteArray) (hl : l.length ≤ 1000) : ∀ d k i, l.length = i + d → d < k →
    ∃ r, slices_Index_string_string.l0 k l a (l.length : Int) (i : Int) = some r ∧ decide (r ≥ 0) = decide (B a ∈ (l.drop i).map B)
  | 0, k, i, h, hk => by
    obtain ⟨k, rfl⟩ : ∃ m, k = m + 1 := ⟨k - 1, by omega⟩
    refine ⟨-1, ?_, ?_⟩
    · simp only [slices_Index_string_string.l0]; rw [if_neg (by omega)]
    · rw [List.drop_of_length_le (by omega)]; simp
  | d + 1, k, i, h, hk => by
    obtain ⟨k, rfl⟩ : ∃ m, k = m + 1 := ⟨k - 1, by omega⟩
    have hi : i < l.length := by omega
    have hr : rdOf ByteArray.empty l (i : Int) = l[i]'hi := by simp [rdOf, List.getD_eq_getElem?_getD, List.getElem?_eq_getElem hi]
    have hd : l.drop i = l[i]'hi :: l.drop (i + 1) := List.drop_eq_getElem_cons hi
    by_cases e : B a = B (l[i]'hi)
    · refine ⟨i, ?_, ?_⟩
      · simp only [slices_Index_string_string.l0]; rw [if_pos (by omega), if_pos (by omega), if_pos (by omega), hr, B_toList, B_toList, if_pos e]
      · rw [hd, List.map_cons, e]; simp
    · obtain ⟨r, h1, h2⟩ := index_spec l a hl d k (i + 1) (by omega) (by omega)
      refine ⟨r, ?_, ?_⟩
      · simp only [slices_Index_string_string.l0]; rw [if_pos (by omega), if_pos (by omega), if_pos (by omega), hr, B_toList, B_toList, if_neg e]
        have hw : wrap64 ((i : Int) + 1) = ((i + 1 : Nat) : Int) := by unfold wrap64; omega
        rw [hw]; exact h1
      · rw [h2, hd, decide_eq_decide, List.map_cons, List.mem_cons]
        exact ⟨.inr, fun h => h.resolve_left e⟩
theorem contains_spec (l : List ByteArray) (a : ByteArray) (hl : l.length ≤ 1000) (k : Nat) (hk : l.length < k) :
    slices_Contains_string_string.f k l a = some (decide (B a ∈ l.map B)) := by
  obtain ⟨r, h1, h2⟩ := index_spec l a hl l.length k 0 (by omega) hk
  unfold slices_Contains_string_string.f slices_Index_string_string.f
  have h1' : slices_Index_string_string.l0 k l a (l.length : Int) 0 = some r := h1
  rw [h1', Option.bind_some, h2, List.drop_zero]

theorem Null_spec (s : ByteArray) (k : Nat) (hk : 5 < k) : schema_Null.f k s = some (nullS (B s)) := by
  unfold schema_Null.f
  rw [contains_spec _ _ (by simp) k (by simpa using hk)]
  rfl
theorem Bool_spec (s : ByteArray) (k : Nat) (hk : 6 < k) : schema_Bool.f k s = some (boolS (B s)) := by
  unfold schema_Bool.f
  rw [contains_spec _ _ (by simp) k (by simpa using hk)]
  rfl

def pre : List UInt8 → List UInt8 → Option (List UInt8)
  | [], l => some l
  | _ :: _, [] => none
  | c :: p, d :: l => if d.toNat = c.toNat then pre p l else none
theorem pre_take : ∀ p l : List UInt8, (pre p l = if l.take p.length = p then some (l.drop p.length) else none)
  | [], l => by simp [pre]
  | c :: p, [] => by simp [pre]
  | c :: p, d :: l => by
    rw [pre, pre_take p l]
    by_cases h : d.toNat = c.toNat
    · have := UInt8.toNat_inj.mp h; subst this; simp
    · rw [if_neg h]
      have : ¬ d = c := fun e => h (by rw [e])
      simp [this]
theorem cut_spec (s p : ByteArray) : ∃ t b, strings_CutPrefix.f s p = some (t, b) ∧ b = (pre (B p) (B s)).isSome ∧ (∀ r, pre (B p) (B s) = some r → B t = r) ∧ t.size ≤ s.size ∧ (b = false → t = s) := by
  have hh : stringslite_HasPrefix.f s p = some (pre (B p) (B s)).isSome := by
    unfold stringslite_HasPrefix.f
    rw [pre_take]
    by_cases h : p.size ≤ s.size
    · rw [if_pos (by omega), if_pos (by omega), if_pos (by omega)]
      rw [B_toList, B_toList]
      have e : B (s.extract 0 ((p.size : Int)).toNat) = (B s).take (B p).length := by
        rw [← B_size]; unfold B; exact (Lib.extract_data s 0 p.size).trans (by rw [List.drop_zero, Nat.sub_zero])
      rw [e]
      by_cases h2 : (B s).take (B p).length = B p
      · rw [if_pos h2, h2]; simp
      · rw [if_neg h2]; simpa using h2
    · rw [if_neg (by omega)]
      rw [if_neg]
      · rfl
      · intro e; have := congrArg List.length e; rw [List.length_take, ← B_size, ← B_size] at this; omega
  unfold strings_CutPrefix.f stringslite_CutPrefix.f
  rw [hh]
  simp only [Option.bind_some]
  cases hp : pre (B p) (B s) with
  | none => exact ⟨s, false, by simp, by simp, by simp, Nat.le_refl _, fun _ => rfl⟩
  | some r =>
    have hr := hp
    rw [pre_take] at hr
    have h2 : (B s).take (B p).length = B p := by
      by_cases h2 : (B s).take (B p).length = B p
      · exact h2
      · rw [if_neg h2] at hr; cases hr
    rw [if_pos h2] at hr
    have hl : p.size ≤ s.size := by have := congrArg List.length h2; rw [List.length_take, ← B_size, ← B_size] at this; omega
    have hx : B (s.extract p.size s.size) = (B s).drop p.size := Lib.extract_to_end s p.size
    refine ⟨s.extract p.size s.size, true, ?_, by simp, ?_, ?_, by simp⟩
    · simp only [Option.isSome_some, if_true]; rw [if_pos (by omega), if_pos (by omega)]; simp
    · intro q hq
      rw [hx, B_size p]; exact (Option.some.inj hr).trans (Option.some.inj hq)
    · rw [B_size (s.extract p.size s.size), hx, List.length_drop, ← B_size]; omega

theorem decs_ascii : ∀ c ∈ B (⟨#[48, 49, 50, 51, 52, 53, 54, 55, 56, 57]⟩ : ByteArray), c.toNat < 128 := by decide
theorem octs_ascii : ∀ c ∈ B (⟨#[48, 49, 50, 51, 52, 53, 54, 55]⟩ : ByteArray), c.toNat < 128 := by decide
theorem hexs_ascii : ∀ c ∈ B (⟨#[48, 49, 50, 51, 52, 53, 54, 55, 56, 57, 97, 98, 99, 100, 101, 102, 65, 66, 67, 68, 69, 70]⟩ : ByteArray), c.toNat < 128 := by decide
theorem dig_fun : (fun c => decide (c ∈ B (⟨#[48, 49, 50, 51, 52, 53, 54, 55, 56, 57]⟩ : ByteArray))) = dig := funext dig_mem
theorem oct_fun : (fun c => decide (c ∈ B (⟨#[48, 49, 50, 51, 52, 53, 54, 55]⟩ : ByteArray))) = oct := funext oct_mem
theorem hex_fun : (fun c => decide (c ∈ B (⟨#[48, 49, 50, 51, 52, 53, 54, 55, 56, 57, 97, 98, 99, 100, 101, 102, 65, 66, 67, 68, 69, 70]⟩ : ByteArray))) = hexd := funext hex_mem
theorem pre_8 (l : List UInt8) : pre [48, 111] l = pref8 l := by
  match l with
  | [] => rfl
  | [a] => simp only [pre, pref8]; split <;> rfl
  | a :: b :: r =>
    simp only [pre, pref8]
    by_cases h : a.toNat = 48 <;> by_cases h2 : b.toNat = 111 <;> simp [h, h2]
theorem pre_16 (l : List UInt8) : pre [48, 120] l = pref16 l := by
  match l with
  | [] => rfl
  | [a] => simp only [pre, pref16]; split <;> rfl
  | a :: b :: r =>
    simp only [pre, pref16]
    by_cases h : a.toNat = 48 <;> by_cases h2 : b.toNat = 120 <;> simp [h, h2]

theorem Int_spec (s : ByteArray) (hs : s.size ≤ 9223372036854775807) : schema_Int.f s = some (intS (B s)) := by
  obtain ⟨t8, b8, h8, e8, g8, z8, _⟩ := cut_spec s (⟨#[48, 111]⟩ : ByteArray)
  obtain ⟨tx, bx, hx, ex, gx, zx, _⟩ := cut_spec s (⟨#[48, 120]⟩ : ByteArray)
  obtain ⟨u, hu, eu, zu⟩ := unsigned_spec s hs
  have p8 : pre (B (⟨#[48, 111]⟩ : ByteArray)) (B s) = pref8 (B s) := pre_8 _
  have p16 : pre (B (⟨#[48, 120]⟩ : ByteArray)) (B s) = pref16 (B s) := pre_16 _
  rw [p8] at e8 g8
  rw [p16] at ex gx
  unfold schema_Int.f intS
  rw [h8, Option.bind_some, hx, Option.bind_some, hu, Option.bind_some, all_spec u _ decs_ascii (by omega), Option.bind_some, dig_fun, eu]
  simp only [all_spec t8 _ octs_ascii (by omega), all_spec tx _ hexs_ascii (by omega), Option.bind_some, oct_fun, hex_fun]
  cases h8' : pref8 (B s) with
  | none =>
    rw [h8'] at e8; subst e8
    cases h16' : pref16 (B s) with
    | none => rw [h16'] at ex; subst ex; cases allB dig (sgn (B s)) <;> simp [ofO]
    | some r =>
      rw [h16'] at ex; subst ex
      rw [gx r h16']
      cases allB dig (sgn (B s)) <;> simp [ofO]
  | some q =>
    rw [h8'] at e8; subst e8
    rw [g8 q h8']
    cases h16' : pref16 (B s) with
    | none => rw [h16'] at ex; subst ex; cases allB dig (sgn (B s)) <;> cases h : allB oct q <;> simp [ofO, h]
    | some r =>
      rw [h16'] at ex; subst ex
      rw [gx r h16']
      cases allB dig (sgn (B s)) <;> cases h : allB oct q <;> simp [ofO, h]

theorem j1_spec (x : ByteArray) (n : Nat) (b : Bool) (k : Nat) (hk : 0 < k) (hx : x.size ≤ 9223372036854775807) (hb : b = (decide (n = 0) || (B x).isEmpty)) :
    schema_Float.j1 k x (n : Int) b = some (behindS n (B x)) := by
  obtain ⟨k, rfl⟩ : ∃ m, k = m + 1 := ⟨k - 1, by omega⟩
  simp only [schema_Float.j1]
  by_cases h0 : n = 0
  · subst h0; rw [hb]; simp [behindS]
  · cases hB : B x with
    | nil =>
      rw [hB] at hb; rw [hb]
      simp [behindS, h0, expS]; omega
    | cons c q =>
      rw [hB] at hb
      have hb' : b = false := by rw [hb]; simp [h0]
      subst hb'
      have hl : 0 < x.size := by rw [B_size, hB]; simp
      have hd := B_drop x 0 hl
      rw [List.drop_zero, hB] at hd
      have hc : c = x[0]'hl := (List.cons.inj hd).1
      have hbt : bt x 0 = (c.toNat : Int) := by rw [hc]; exact bt_eq x 0 hl
      have hx1 : B (x.extract 1 x.size) = q := by rw [B, Lib.extract_to_end x 1]; show (B x).drop 1 = q; rw [hB]; rfl
      have hz : (x.extract 1 x.size).size ≤ 9223372036854775807 := by rw [B_size, hx1]; have := B_size x; rw [hB] at this; simp at this; omega
      obtain ⟨u, hu, eu, zu⟩ := unsigned_spec (x.extract 1 x.size) hz
      rw [hu, Option.bind_some, all_spec u _ decs_ascii (by omega), Option.bind_some, dig_fun, eu, hx1, hbt]
      simp only [Bool.false_eq_true, if_false]
      rw [if_pos (by omega)]
      simp only [show (1 : Int) ≤ (x.size : Int) from by omega, if_true, behindS, h0, if_false, expS]
      by_cases h1 : c.toNat = 101
      · rw [if_pos (by omega)]; simp [h1]
      · rw [if_neg (by omega)]
        by_cases h2 : c.toNat = 69
        · rw [if_pos (by omega)]; simp [h2]
        · rw [if_neg (by omega)]; simp [h1, h2]
theorem j0_spec (x : ByteArray) (n : Nat) (k : Nat) (hk : 1 < k) (hx : x.size ≤ 9223372036854775807) : schema_Float.j0 k x (n : Int) = some (behindS n (B x)) := by
  obtain ⟨k, rfl⟩ : ∃ m, k = m + 1 := ⟨k - 1, by omega⟩
  simp only [schema_Float.j0]
  by_cases h0 : n = 0
  · subst h0; rw [if_pos (by rfl)]; exact j1_spec x 0 _ k (by omega) hx (by simp)
  · rw [if_neg (by omega)]; exact j1_spec x n _ k (by omega) hx (by rw [B_toList]; simp [h0, Bool.eq_iff_iff])

set_option maxHeartbeats 1000000 in
theorem Float_spec (s : ByteArray) (hs : s.size ≤ 9223372036854775807) (k : Nat) (hk : 9 < k) : schema_Float.f k s = some (floatS (B s)) := by
  obtain ⟨u, hu, eu, zu⟩ := unsigned_spec s hs
  unfold schema_Float.f floatS
  rw [contains_spec _ _ (by simp) k (by simp; omega), Option.bind_some]
  have e1 : decide (B s ∈ List.map B [(⟨#[46, 110, 97, 110]⟩ : ByteArray), ⟨#[46, 78, 97, 78]⟩, ⟨#[46, 78, 65, 78]⟩]) = decide (B s ∈ nans) := rfl
  rw [e1]
  cases decide (B s ∈ nans) with
  | true => simp
  | false =>
    simp only [Bool.false_eq_true, if_false, Bool.false_or]
    rw [hu, Option.bind_some, contains_spec _ _ (by simp) k (by simp; omega), Option.bind_some]
    have e2 : decide (B u ∈ List.map B [(⟨#[46, 105, 110, 102]⟩ : ByteArray), ⟨#[46, 73, 110, 102]⟩, ⟨#[46, 73, 78, 70]⟩]) = decide (sgn (B s) ∈ infs) := by rw [eu]; rfl
    rw [e2]
    cases decide (sgn (B s) ∈ infs) with
    | true => simp
    | false =>
      simp only [Bool.false_eq_true, if_false, Bool.false_or]
      obtain ⟨t, h1, h2⟩ := run_spec u _ decs_ascii (by omega)
      rw [dig_fun] at h1 h2
      have tz : t.size ≤ u.size := by
        have := takeDrop (p := dig) (B u); rw [← h2, ← B_size, ← B_size] at this; omega
      have uz : u.size = (B u).length := B_size u
      have tk : ((B u).takeWhile dig).length ≤ u.size := by have := takeDrop (p := dig) (B u); omega
      obtain ⟨v, b, h3, h4, h5, h6, h7⟩ := cut_spec t (⟨#[46]⟩ : ByteArray)
      rw [h1, Option.bind_some]
      simp only
      rw [h3, Option.bind_some]
      simp only
      rw [← eu]
      unfold numS
      rw [← h2]
      have hp : pre (B (⟨#[46]⟩ : ByteArray)) (B t) = pre [46] (B t) := rfl
      rw [hp] at h4 h5
      cases hb : B t with
      | nil =>
        rw [hb] at h4 h5
        have : b = false := by rw [h4]; rfl
        subst this
        simp only [Bool.false_eq_true, if_false]
        rw [j0_spec t _ k (by omega) (by omega), hb]
        by_cases h0 : ((B u).takeWhile dig).length = 0 <;> simp [behindS, expS, h0]
        omega
      | cons c q =>
        rw [hb] at h4 h5
        by_cases hc : c.toNat = 46
        · have e : pre [46] (c :: q) = some q := by simp [pre, hc]
          rw [e] at h4 h5
          have : b = true := h4
          subst this
          have hv := h5 q rfl
          simp only [if_true, hc]
          obtain ⟨w, g1, g2⟩ := run_spec v _ decs_ascii (by omega)
          rw [dig_fun] at g1 g2
          rw [g1, Option.bind_some]
          have wz := takeDrop (p := dig) (B v)
          rw [← g2, ← B_size, ← B_size] at wz
          have vz : v.size + 1 = t.size := by rw [B_size v, B_size t, hb, hv]; simp
          have td := takeDrop (p := dig) (B u)
          rw [← h2, ← B_size, ← B_size] at td
          have wl : w.size ≤ 9223372036854775807 := Nat.le_trans (show w.size ≤ s.size by omega) hs
          have hw : wrap64 (((((B u).takeWhile dig).length : Int)) + ((((B v).takeWhile dig).length : Int))) = (((((B u).takeWhile dig).length + ((B v).takeWhile dig).length : Nat)) : Int) := by unfold wrap64; omega
          simp only
          rw [hw, j0_spec w _ k (by omega) wl, g2, hv]
        · have e : pre [46] (c :: q) = none := by simp [pre, hc]
          rw [e] at h4
          have : b = false := h4
          subst this
          simp only [Bool.false_eq_true, if_false, hc]
          rw [j0_spec t _ k (by omega) (by omega), hb]

theorem Resolve_spec (s : ByteArray) (hs : s.size ≤ 9223372036854775807) (k : Nat) (hk : 9 < k) : ∃ t, schema_Resolve.f k s = some t ∧ B t = resolveS (B s) := by
  unfold schema_Resolve.f resolveS
  rw [Null_spec s k (by omega), Option.bind_some, Bool_spec s k (by omega), Option.bind_some, Int_spec s hs, Option.bind_some, Float_spec s hs k hk, Option.bind_some]
  cases nullS (B s)
  · cases boolS (B s)
    · cases intS (B s)
      · cases floatS (B s)
        · exact ⟨_, rfl, rfl⟩
        · exact ⟨_, rfl, rfl⟩
      · exact ⟨_, rfl, rfl⟩
    · exact ⟨_, rfl, rfl⟩
  · exact ⟨_, rfl, rfl⟩
theorem wakes_spec (k : Nat) (hk : 9 < k) : scholiumlaw08_wakes.f k = some true := by
  obtain ⟨t, h1, h2⟩ := Resolve_spec (⟨#[49, 46, 53]⟩ : ByteArray) (by decide) k hk
  unfold scholiumlaw08_wakes.f
  rw [h1, Option.bind_some, B_toList, h2]
  decide +kernel
end Go.Proofs.Ytoahbekcegcghaa.BaseSchemaForms
