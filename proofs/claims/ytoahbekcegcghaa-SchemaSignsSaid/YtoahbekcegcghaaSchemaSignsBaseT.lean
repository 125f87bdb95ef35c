/- The text that the laws of chapter 8 draw: there is one, and it is short. -/
import Derived.Test.YtoahbekcegcghaaSchemaSignsBase
namespace Go.Proofs.Ytoahbekcegcghaa.BaseSchemaSigns
open Go.RowKit Go.Proofs.Ytoahbekcegcghaa.XSchemaSigns Go.Proofs.YtoahbekcegcghaaW.PrintWords Go.Proofs.YtoahbekcegcghaaW.PrintLast Go.Proofs.Ytoahbekcegcghaa.SchemaPlain
set_option linter.unusedSimpArgs false
set_option linter.unusedVariables false

theorem within_spec (v n : Int) (h0 : 0 < n) (h1 : n ≤ 1000000000) : ∃ r, scholiumkeep_Within.f v n = some r ∧ 0 ≤ r ∧ r < n := by
  have a := Int.tmod_lt_of_pos v h0
  have b := Int.lt_tmod_of_pos v h0
  unfold scholiumkeep_Within.f
  rw [if_neg (by omega), if_neg (by omega)]
  by_cases h : Int.tmod v n < 0
  · rw [if_pos h]
    have e : wrap64 (Int.tmod v n + n) = Int.tmod v n + n := by
      generalize Int.tmod v n = m at *
      unfold wrap64; omega
    exact ⟨_, by rw [e], by omega, by omega⟩
  · rw [if_neg h]; exact ⟨_, rfl, by omega, by omega⟩

theorem rdOf_small (l : List ByteArray) (n : Nat) (h : ∀ x ∈ l, x.size ≤ n) (i : Int) : (rdOf ByteArray.empty l i).size ≤ n := by
  unfold rdOf
  rw [List.getD_eq_getElem?_getD]
  cases e : l[i.toNat]? with
  | none => simp
  | some x => simpa using h x (List.mem_of_getElem? e)

theorem text_loop (l : List Int) (L : List ByteArray) (hL : L.length = 21) (hs : ∀ x ∈ L, x.size ≤ 5) : ∀ (d i : Nat) (acc : ByteArray), 7 = i + d → acc.size ≤ 5 * i →
    ∃ t, t.size ≤ 35 ∧ ∀ k, d < k → scholiumlaw08_text.l0 k l L acc (i : Int) = some t
  | 0, i, acc, h, ha => by
    refine ⟨acc, by omega, fun k hk => ?_⟩
    obtain ⟨k, rfl⟩ : ∃ m, k = m + 1 := ⟨k - 1, by omega⟩
    simp only [scholiumlaw08_text.l0]
    by_cases hl : (i : Int) < (l.length : Int)
    · rw [if_pos hl, if_neg (by omega)]
    · rw [if_neg hl]
  | d + 1, i, acc, h, ha => by
    by_cases hl : (i : Int) < (l.length : Int)
    · obtain ⟨r, hr, h0, h1⟩ := within_spec (rd l (i : Int)) 21 (by omega) (by omega)
      have hz := rdOf_small L 5 hs r
      obtain ⟨t, ht, hk⟩ := text_loop l L hL hs d (i + 1) (acc ++ rdOf ByteArray.empty L r) (by omega) (by rw [ByteArray.size_append]; omega)
      refine ⟨t, ht, fun k hk' => ?_⟩
      obtain ⟨k, rfl⟩ : ∃ m, k = m + 1 := ⟨k - 1, by omega⟩
      simp only [scholiumlaw08_text.l0]
      rw [if_pos hl, if_pos (by omega), if_pos (by omega), hL, show ((21 : Nat) : Int) = 21 from rfl, hr, Option.bind_some, if_pos h0, if_pos h1, if_pos (by omega)]
      have hw : wrap64 ((i : Int) + 1) = ((i + 1 : Nat) : Int) := by unfold wrap64; omega
      rw [hw]; exact hk k (by omega)
    · refine ⟨acc, by omega, fun k hk => ?_⟩
      obtain ⟨k, rfl⟩ : ∃ m, k = m + 1 := ⟨k - 1, by omega⟩
      simp only [scholiumlaw08_text.l0]; rw [if_neg hl]

def signs : List ByteArray := [(⟨#[45]⟩ : ByteArray), (⟨#[43]⟩ : ByteArray), (⟨#[48]⟩ : ByteArray), (⟨#[49]⟩ : ByteArray), (⟨#[57]⟩ : ByteArray), (⟨#[55]⟩ : ByteArray), (⟨#[46]⟩ : ByteArray), (⟨#[101]⟩ : ByteArray), (⟨#[69]⟩ : ByteArray), (⟨#[48, 120]⟩ : ByteArray), (⟨#[48, 111]⟩ : ByteArray), (⟨#[97]⟩ : ByteArray), (⟨#[70]⟩ : ByteArray), (⟨#[110, 117, 108, 108]⟩ : ByteArray), (⟨#[126]⟩ : ByteArray), (⟨#[116, 114, 117, 101]⟩ : ByteArray), (⟨#[70, 97, 108, 115, 101]⟩ : ByteArray), (⟨#[46, 105, 110, 102]⟩ : ByteArray), (⟨#[46, 78, 97, 78]⟩ : ByteArray), (⟨#[110]⟩ : ByteArray), (⟨#[32]⟩ : ByteArray)]
theorem text_spec (a : ByteArray) (l : List Int) (raw : Bool) : ∃ t, t.size ≤ 35 ∧ ∀ k, 7 < k → scholiumlaw08_text.f k a l raw = some t := by
  cases raw with
  | true =>
    refine ⟨a.extract 0 (mn (a.size : Int) 30).toNat, ?_, fun k hk => ?_⟩
    · rw [ByteArray.size_extract]; unfold mn; split <;> omega
    · unfold scholiumlaw08_text.f scholiumkeep_Text.f
      rw [if_pos rfl, if_pos (by unfold mn; split <;> omega), if_pos (by unfold mn; split <;> omega)]; rfl
  | false =>
    obtain ⟨t, h1, h2⟩ := text_loop l signs rfl (by decide) 7 0 ⟨#[]⟩ (by omega) (by decide)
    exact ⟨t, h1, fun k hk => by unfold scholiumlaw08_text.f; rw [if_neg (by simp)]; exact h2 k hk⟩
end Go.Proofs.Ytoahbekcegcghaa.BaseSchemaSigns
