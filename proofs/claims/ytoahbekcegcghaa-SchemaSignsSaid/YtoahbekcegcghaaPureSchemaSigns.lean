/- SchemaSigns: a number with a sign ahead of it is a number still, with two it is none; a letter more makes a text of a word; a blank more makes a text of all. For every input. -/
import Derived.Test.YtoahbekcegcghaaSchemaSignsBaseT
import Derived.Test.YtoahbekcegcghaaSchemaPlainMore
namespace Go.Proofs.Ytoahbekcegcghaa.Pure
open Go.RowKit Go.Proofs.Ytoahbekcegcghaa.XSchemaSigns Go.Proofs.YtoahbekcegcghaaW.PrintWords Go.Proofs.YtoahbekcegcghaaW.PrintLast Go.Proofs.Ytoahbekcegcghaa.BaseSchemaSigns Go.Proofs.Ytoahbekcegcghaa.SchemaPlain
set_option linter.unusedSimpArgs false
set_option linter.unusedVariables false

theorem B_app (a b : ByteArray) : B (a ++ b) = B a ++ B b := by unfold B; simp
theorem sz_app (a b : ByteArray) : (a ++ b).size = a.size + b.size := ByteArray.size_append
theorem j3_spec (t : ByteArray) (ht : t.size ≤ 1000) (k : Nat) (hk : 20 < k) : scholiumlaw08_SchemaSigns.j3 k t = some true := by
  obtain ⟨k, rfl⟩ : ∃ m, k = m + 1 := ⟨k - 1, by omega⟩
  have s1 : (t ++ (⟨#[32]⟩ : ByteArray)).size ≤ 9223372036854775807 := by rw [sz_app]; show t.size + 1 ≤ _; omega
  have s2 : ((⟨#[32]⟩ : ByteArray) ++ t).size ≤ 9223372036854775807 := by rw [sz_app]; show 1 + t.size ≤ _; omega
  have b1 : B (t ++ (⟨#[32]⟩ : ByteArray)) = B t ++ [32] := B_app _ _
  have b2 : B ((⟨#[32]⟩ : ByteArray) ++ t) = 32 :: B t := B_app _ _
  have b3 : B (t ++ (⟨#[120]⟩ : ByteArray)) = B t ++ [120] := B_app _ _
  have q1 : t.size + 1 ≤ 9223372036854775807 := by omega
  have q2 : 1 + t.size ≤ 9223372036854775807 := by omega
  have hn := null_more (B t)
  simp only [scholiumlaw08_SchemaSigns.j3]
  rw [Null_spec t k (by omega), Option.bind_some, Null_spec (t ++ ⟨#[120]⟩) k (by omega), Null_spec (t ++ ⟨#[32]⟩) k (by omega), Bool_spec (t ++ ⟨#[32]⟩) k (by omega), Int_spec (t ++ ⟨#[32]⟩) s1, Float_spec (⟨#[32]⟩ ++ t) s2 k (by omega), wakes_spec k (by omega)]
  simp only [Option.bind_some, b1, b2, b3, null_blank, bool_blank, int_blank, float_blank, q1, q2, B_toList, if_true, Bool.false_eq_true, if_false]
  by_cases h : nullS (B t) = true
  · rw [if_pos h]
    by_cases h0 : B t = []
    · rw [if_pos h0]
    · rw [if_neg h0, hn h h0]; rfl
  · rw [if_neg h]
theorem j2_spec (t : ByteArray) (ht : t.size ≤ 1000) (k : Nat) (hk : 30 < k) (h : intS (B t) = true → floatS (B t) = true) : scholiumlaw08_SchemaSigns.j2 k t false = some true := by
  obtain ⟨k, rfl⟩ : ∃ m, k = m + 1 := ⟨k - 1, by omega⟩
  simp only [scholiumlaw08_SchemaSigns.j2]
  rw [Int_spec t (by omega), Float_spec t (by omega) k (by omega), j3_spec t ht k (by omega)]
  simp only [Option.bind_some, Bool.false_eq_true, if_false]
  by_cases hi : intS (B t) = true
  · rw [if_pos hi, if_pos (h hi)]
  · rw [if_neg hi]
theorem j1_no (t : ByteArray) (ht : t.size ≤ 1000) (k : Nat) (hk : 30 < k) : scholiumlaw08_SchemaSigns.j1 k t false = some true := by
  obtain ⟨k, rfl⟩ : ∃ m, k = m + 1 := ⟨k - 1, by omega⟩
  simp only [scholiumlaw08_SchemaSigns.j1, Bool.false_eq_true, if_false]
  exact j3_spec t ht k (by omega)
theorem j1_yes (t : ByteArray) (ht : t.size ≤ 1000) (k : Nat) (hk : 40 < k) (h : plainDigits (B t)) : scholiumlaw08_SchemaSigns.j1 k t true = some true := by
  obtain ⟨k, rfl⟩ : ∃ m, k = m + 1 := ⟨k - 1, by omega⟩
  have b1 : B ((⟨#[45]⟩ : ByteArray) ++ t) = 45 :: B t := B_app _ _
  have b2 : B ((⟨#[43]⟩ : ByteArray) ++ t) = 43 :: B t := B_app _ _
  have b3 : B ((⟨#[45, 45]⟩ : ByteArray) ++ t) = 45 :: 45 :: B t := B_app _ _
  have b4 : B ((⟨#[43, 45]⟩ : ByteArray) ++ t) = 43 :: 45 :: B t := B_app _ _
  have s1 : ((⟨#[45]⟩ : ByteArray) ++ t).size ≤ 9223372036854775807 := by rw [sz_app]; show 1 + t.size ≤ _; omega
  have s2 : ((⟨#[43]⟩ : ByteArray) ++ t).size ≤ 9223372036854775807 := by rw [sz_app]; show 1 + t.size ≤ _; omega
  have s3 : ((⟨#[45, 45]⟩ : ByteArray) ++ t).size ≤ 9223372036854775807 := by rw [sz_app]; show 2 + t.size ≤ _; omega
  have s4 : ((⟨#[43, 45]⟩ : ByteArray) ++ t).size ≤ 9223372036854775807 := by rw [sz_app]; show 2 + t.size ≤ _; omega
  have q1 : 1 + t.size ≤ 9223372036854775807 := by omega
  have q2 : 2 + t.size ≤ 9223372036854775807 := by omega
  simp only [scholiumlaw08_SchemaSigns.j1]
  rw [Int_spec t (by omega), Int_spec _ s1, Int_spec _ s2, Int_spec _ s3, Float_spec t (by omega) k (by omega), Float_spec _ s1 k (by omega), Float_spec _ s4 k (by omega)]
  simp only [Option.bind_some, b1, b2, b3, b4, int_plain h, int_signed 45 (B t) (by decide), int_signed 43 (B t) (by decide), float_plain h, float_signed 45 (by decide) h, int_twice, float_twice, q1, q2, if_true, bne_self_eq_false, Bool.false_eq_true, if_false]
  exact j2_spec t ht k (by omega) (int_float h)
theorem j0_no (t : ByteArray) (ht : t.size ≤ 1000) (k : Nat) (hk : 40 < k) : scholiumlaw08_SchemaSigns.j0 k t false = some true := by
  obtain ⟨k, rfl⟩ : ∃ m, k = m + 1 := ⟨k - 1, by omega⟩
  simp only [scholiumlaw08_SchemaSigns.j0, Bool.false_eq_true, if_false]
  exact j1_no t ht k (by omega)
theorem j0_yes (t : ByteArray) (ht : t.size ≤ 1000) (k : Nat) (hk : 50 < k) (c : UInt8) (r : List UInt8) (hB : B t = c :: r) (hc : dig c = true) : scholiumlaw08_SchemaSigns.j0 k t true = some true := by
  obtain ⟨k, rfl⟩ : ∃ m, k = m + 1 := ⟨k - 1, by omega⟩
  have sz := B_size t
  rw [hB, List.length_cons] at sz
  simp only [scholiumlaw08_SchemaSigns.j0, if_true]
  cases r with
  | nil =>
    rw [if_pos (by simp at sz; omega)]
    exact j1_yes t ht k (by omega) ⟨c, [], hB, hc, .inl rfl⟩
  | cons d q =>
    rw [List.length_cons] at sz
    have h1 : 1 < t.size := by omega
    have hd := B_drop t 1 h1
    rw [hB] at hd
    have e : d = t[1]'h1 := (List.cons.inj hd).1
    have hb : bt t 1 = (d.toNat : Int) := by rw [e]; exact bt_eq t 1 h1
    rw [if_neg (by omega), if_pos (by omega), hb]
    by_cases h111 : d.toNat = 111
    · rw [if_pos (by omega)]; exact j1_no t ht k (by omega)
    · rw [if_neg (by omega)]
      by_cases h120 : d.toNat = 120
      · rw [h120]; exact j1_no t ht k (by omega)
      · have : (((d.toNat : Int)) != 120) = true := by rw [bne_iff_ne]; omega
        rw [this]; exact j1_yes t ht k (by omega) ⟨c, d :: q, hB, hc, .inr ⟨d, q, rfl, h111, h120⟩⟩

theorem SchemaSigns : scholiumlaw08_SchemaSigns.Pure := by
  intro a l raw _ _ _ _
  obtain ⟨t, ht, hk⟩ := text_spec a l raw
  refine ⟨1000, ?_⟩
  unfold scholiumlaw08_SchemaSigns.f
  rw [hk 1000 (by omega), Option.bind_some, B_toList]
  cases hB : B t with
  | nil => rw [if_pos rfl]; exact j0_no t (by omega) 1000 (by omega)
  | cons c r =>
    have h0 : 0 < t.size := by rw [B_size, hB]; simp
    have hd := B_drop t 0 h0
    rw [List.drop_zero, hB] at hd
    have e : c = t[0]'h0 := (List.cons.inj hd).1
    have hb : bt t 0 = (c.toNat : Int) := by rw [e]; exact bt_eq t 0 h0
    rw [if_neg (by simp), if_pos (by omega), hb]
    by_cases h48 : 48 ≤ c.toNat
    · rw [if_pos (by omega)]
      by_cases h57 : c.toNat ≤ 57
      · rw [decide_eq_true (by omega)]
        exact j0_yes t (by omega) 1000 (by omega) c r hB (by unfold dig; simp [h48, h57])
      · rw [decide_eq_false (by omega)]; exact j0_no t (by omega) 1000 (by omega)
    · rw [if_neg (by omega)]; exact j0_no t (by omega) 1000 (by omega)
end Go.Proofs.Ytoahbekcegcghaa.Pure
