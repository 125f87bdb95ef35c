/- SchemaForms: texts that are each kind, and texts that nearly are, at each of the ten digits. For every input. -/
import Derived.Test.YtoahbekcegcghaaSchemaFormsBase
namespace Go.Proofs.Ytoahbekcegcghaa.Pure
open Go.RowKit Go.Proofs.Ytoahbekcegcghaa.XSchemaForms Go.Proofs.YtoahbekcegcghaaW.PrintWords Go.Proofs.YtoahbekcegcghaaW.PrintLast Go.Proofs.Ytoahbekcegcghaa.BaseSchemaForms Go.Proofs.Ytoahbekcegcghaa.SchemaPlain
set_option linter.unusedSimpArgs false
set_option linter.unusedVariables false

theorem within_spec (v n : Int) (h0 : 0 < n) (h1 : n ≤ 1000000000) : ∃ r, scholiumkeep_Within.f v n = some r ∧ 0 ≤ r ∧ r < n := by
  have a := Int.tmod_lt_of_pos v h0
  have b := Int.lt_tmod_of_pos v h0
  unfold scholiumkeep_Within.f
  rw [if_neg (by omega), if_neg (by omega)]
  by_cases h : Int.tmod v n < 0
  · rw [if_pos h]
    have e : wrap64 (Int.tmod v n + n) = Int.tmod v n + n := by
      generalize Int.tmod v n = m at *
      unfold wrap64; omega
    exact ⟨_, by rw [e], by omega, by omega⟩
  · rw [if_neg h]; exact ⟨_, rfl, by omega, by omega⟩
/-- each text of a list has this tag -/
def Tagged (tag : List UInt8) (L : List ByteArray) : Prop := ∀ t ∈ L, resolveS (B t) = tag ∧ t.size ≤ 1000
theorem at_list (L : List ByteArray) (i : Nat) (hi : i < L.length) : rdOf ByteArray.empty L (i : Int) = L[i]'hi := by simp [rdOf, List.getD_eq_getElem?_getD, List.getElem?_eq_getElem hi]
theorem loop0 (x : ByteArray) (L : List ByteArray) (hL : L.length ≤ 100) (h : Tagged [33, 33, 110, 117, 108, 108] L) : ∀ d k i, L.length = i + d → d + 20 < k →
    scholiumlaw08_SchemaForms.l0 k x L (L.length : Int) (i : Int) = scholiumlaw08_SchemaForms.l0 (k - d) x L (L.length : Int) (L.length : Int)
  | 0, k, i, hi, hk => by rw [hi]; rfl
  | d + 1, k, i, hi, hk => by
    have ih := loop0 x L hL h d (k - 1) (i + 1) (by omega) (by omega)
    obtain ⟨k, rfl⟩ : ∃ m, k = m + 1 := ⟨k - 1, by omega⟩
    have hlt : i < L.length := by omega
    obtain ⟨h1, h2⟩ := h _ (List.getElem_mem hlt)
    obtain ⟨r, h3, h4⟩ := Resolve_spec (L[i]'hlt) (by omega) k (by omega)
    have e : k + 1 - (d + 1) = k + 1 - 1 - d := by omega
    have q1 : (i : Int) < (L.length : Int) := by omega
    have q2 : 0 ≤ (i : Int) := by omega
    rw [e, ← ih]
    have hw : wrap64 ((i : Int) + 1) = ((i + 1 : Nat) : Int) := by unfold wrap64; omega
    rw [scholiumlaw08_SchemaForms.l0.eq_def]
    simp only
    rw [if_pos q1, if_pos q2, if_pos q1, at_list L i hlt, h3, Option.bind_some, B_toList, h4, h1, if_pos rfl, hw]
    rfl
theorem loop1 (x : ByteArray) (L : List ByteArray) (hL : L.length ≤ 100) (h : Tagged [33, 33, 98, 111, 111, 108] L) : ∀ d k i, L.length = i + d → d + 20 < k →
    scholiumlaw08_SchemaForms.l1 k x L (L.length : Int) (i : Int) = scholiumlaw08_SchemaForms.l1 (k - d) x L (L.length : Int) (L.length : Int)
  | 0, k, i, hi, hk => by rw [hi]; rfl
  | d + 1, k, i, hi, hk => by
    have ih := loop1 x L hL h d (k - 1) (i + 1) (by omega) (by omega)
    obtain ⟨k, rfl⟩ : ∃ m, k = m + 1 := ⟨k - 1, by omega⟩
    have hlt : i < L.length := by omega
    obtain ⟨h1, h2⟩ := h _ (List.getElem_mem hlt)
    obtain ⟨r, h3, h4⟩ := Resolve_spec (L[i]'hlt) (by omega) k (by omega)
    have e : k + 1 - (d + 1) = k + 1 - 1 - d := by omega
    have q1 : (i : Int) < (L.length : Int) := by omega
    have q2 : 0 ≤ (i : Int) := by omega
    rw [e, ← ih]
    have hw : wrap64 ((i : Int) + 1) = ((i + 1 : Nat) : Int) := by unfold wrap64; omega
    rw [scholiumlaw08_SchemaForms.l1.eq_def]
    simp only
    rw [if_pos q1, if_pos q2, if_pos q1, at_list L i hlt, h3, Option.bind_some, B_toList, h4, h1, if_pos rfl, hw]
    rfl
theorem loop2 (x : ByteArray) (L : List ByteArray) (hL : L.length ≤ 100) (h : Tagged [33, 33, 105, 110, 116] L) : ∀ d k i, L.length = i + d → d + 20 < k →
    scholiumlaw08_SchemaForms.l2 k x L (L.length : Int) (i : Int) = scholiumlaw08_SchemaForms.l2 (k - d) x L (L.length : Int) (L.length : Int)
  | 0, k, i, hi, hk => by rw [hi]; rfl
  | d + 1, k, i, hi, hk => by
    have ih := loop2 x L hL h d (k - 1) (i + 1) (by omega) (by omega)
    obtain ⟨k, rfl⟩ : ∃ m, k = m + 1 := ⟨k - 1, by omega⟩
    have hlt : i < L.length := by omega
    obtain ⟨h1, h2⟩ := h _ (List.getElem_mem hlt)
    obtain ⟨r, h3, h4⟩ := Resolve_spec (L[i]'hlt) (by omega) k (by omega)
    have e : k + 1 - (d + 1) = k + 1 - 1 - d := by omega
    have q1 : (i : Int) < (L.length : Int) := by omega
    have q2 : 0 ≤ (i : Int) := by omega
    rw [e, ← ih]
    have hw : wrap64 ((i : Int) + 1) = ((i + 1 : Nat) : Int) := by unfold wrap64; omega
    rw [scholiumlaw08_SchemaForms.l2.eq_def]
    simp only
    rw [if_pos q1, if_pos q2, if_pos q1, at_list L i hlt, h3, Option.bind_some, B_toList, h4, h1, if_pos rfl, hw]
    rfl
theorem loop3 (x : ByteArray) (L : List ByteArray) (hL : L.length ≤ 100) (h : Tagged [33, 33, 102, 108, 111, 97, 116] L) : ∀ d k i, L.length = i + d → d + 20 < k →
    scholiumlaw08_SchemaForms.l3 k x L (L.length : Int) (i : Int) = scholiumlaw08_SchemaForms.l3 (k - d) x L (L.length : Int) (L.length : Int)
  | 0, k, i, hi, hk => by rw [hi]; rfl
  | d + 1, k, i, hi, hk => by
    have ih := loop3 x L hL h d (k - 1) (i + 1) (by omega) (by omega)
    obtain ⟨k, rfl⟩ : ∃ m, k = m + 1 := ⟨k - 1, by omega⟩
    have hlt : i < L.length := by omega
    obtain ⟨h1, h2⟩ := h _ (List.getElem_mem hlt)
    obtain ⟨r, h3, h4⟩ := Resolve_spec (L[i]'hlt) (by omega) k (by omega)
    have e : k + 1 - (d + 1) = k + 1 - 1 - d := by omega
    have q1 : (i : Int) < (L.length : Int) := by omega
    have q2 : 0 ≤ (i : Int) := by omega
    rw [e, ← ih]
    have hw : wrap64 ((i : Int) + 1) = ((i + 1 : Nat) : Int) := by unfold wrap64; omega
    rw [scholiumlaw08_SchemaForms.l3.eq_def]
    simp only
    rw [if_pos q1, if_pos q2, if_pos q1, at_list L i hlt, h3, Option.bind_some, B_toList, h4, h1, if_pos rfl, hw]
    rfl
theorem loop4 (L : List ByteArray) (hL : L.length ≤ 100) (h : Tagged [33, 33, 115, 116, 114] L) : ∀ d k i, L.length = i + d → d + 20 < k →
    scholiumlaw08_SchemaForms.l4 k L (L.length : Int) (i : Int) = scholiumlaw08_SchemaForms.l4 (k - d) L (L.length : Int) (L.length : Int)
  | 0, k, i, hi, hk => by rw [hi]; rfl
  | d + 1, k, i, hi, hk => by
    have ih := loop4 L hL h d (k - 1) (i + 1) (by omega) (by omega)
    obtain ⟨k, rfl⟩ : ∃ m, k = m + 1 := ⟨k - 1, by omega⟩
    have hlt : i < L.length := by omega
    obtain ⟨h1, h2⟩ := h _ (List.getElem_mem hlt)
    obtain ⟨r, h3, h4⟩ := Resolve_spec (L[i]'hlt) (by omega) k (by omega)
    have e : k + 1 - (d + 1) = k + 1 - 1 - d := by omega
    have q1 : (i : Int) < (L.length : Int) := by omega
    have q2 : 0 ≤ (i : Int) := by omega
    rw [e, ← ih]
    have hw : wrap64 ((i : Int) + 1) = ((i + 1 : Nat) : Int) := by unfold wrap64; omega
    rw [scholiumlaw08_SchemaForms.l4.eq_def]
    simp only
    rw [if_pos q1, if_pos q2, if_pos q1, at_list L i hlt, h3, Option.bind_some, B_toList, h4, h1, if_pos rfl, hw]
    rfl
def L0 (x3 : ByteArray) : List ByteArray := [(⟨#[110, 117, 108, 108]⟩ : ByteArray), (⟨#[78, 117, 108, 108]⟩ : ByteArray), (⟨#[78, 85, 76, 76]⟩ : ByteArray), (⟨#[126]⟩ : ByteArray), (⟨#[]⟩ : ByteArray)]
def L1 (x3 : ByteArray) : List ByteArray := [(⟨#[116, 114, 117, 101]⟩ : ByteArray), (⟨#[84, 114, 117, 101]⟩ : ByteArray), (⟨#[84, 82, 85, 69]⟩ : ByteArray), (⟨#[102, 97, 108, 115, 101]⟩ : ByteArray), (⟨#[70, 97, 108, 115, 101]⟩ : ByteArray), (⟨#[70, 65, 76, 83, 69]⟩ : ByteArray)]
def L2 (x3 : ByteArray) : List ByteArray := [x3, (⟨#[45]⟩ : ByteArray) ++ x3, ((⟨#[43]⟩ : ByteArray) ++ x3) ++ x3, (⟨#[48, 111, 55]⟩ : ByteArray), ((⟨#[48, 120]⟩ : ByteArray) ++ x3) ++ (⟨#[97, 70]⟩ : ByteArray)]
def L3 (x3 : ByteArray) : List ByteArray := [x3 ++ (⟨#[46]⟩ : ByteArray), (⟨#[46]⟩ : ByteArray) ++ x3, (x3 ++ (⟨#[46]⟩ : ByteArray)) ++ x3, (((⟨#[45]⟩ : ByteArray) ++ x3) ++ (⟨#[101]⟩ : ByteArray)) ++ x3, (x3 ++ (⟨#[69, 45]⟩ : ByteArray)) ++ x3, (((⟨#[46]⟩ : ByteArray) ++ x3) ++ (⟨#[101, 43]⟩ : ByteArray)) ++ x3, (⟨#[46, 105, 110, 102]⟩ : ByteArray), (⟨#[45, 46, 73, 78, 70]⟩ : ByteArray), (⟨#[43, 46, 73, 110, 102]⟩ : ByteArray), (⟨#[46, 110, 97, 110]⟩ : ByteArray), (⟨#[46, 78, 97, 78]⟩ : ByteArray), (⟨#[46, 78, 65, 78]⟩ : ByteArray)]
def L4 (x3 : ByteArray) : List ByteArray := [(⟨#[110, 85, 76, 76]⟩ : ByteArray), (⟨#[116, 82, 117, 101]⟩ : ByteArray), (⟨#[121, 101, 115]⟩ : ByteArray), (⟨#[110, 111]⟩ : ByteArray), (⟨#[111, 110]⟩ : ByteArray), (⟨#[48, 111, 56]⟩ : ByteArray), (⟨#[48, 120]⟩ : ByteArray), (⟨#[48, 111]⟩ : ByteArray), (⟨#[45, 48, 120, 49]⟩ : ByteArray), (⟨#[43, 48, 111, 49]⟩ : ByteArray), (x3 ++ (⟨#[95]⟩ : ByteArray)) ++ x3, (⟨#[46]⟩ : ByteArray), (⟨#[45]⟩ : ByteArray), (⟨#[43]⟩ : ByteArray), (⟨#[101]⟩ : ByteArray) ++ x3, x3 ++ (⟨#[101]⟩ : ByteArray), x3 ++ (⟨#[101, 43]⟩ : ByteArray), (⟨#[46, 101]⟩ : ByteArray) ++ x3, (⟨#[45, 46, 110, 97, 110]⟩ : ByteArray), (⟨#[46, 105, 78, 102]⟩ : ByteArray), (⟨#[105, 110, 102]⟩ : ByteArray), (⟨#[110, 97, 110]⟩ : ByteArray), (x3 ++ (⟨#[46, 46]⟩ : ByteArray)) ++ x3, (((x3 ++ (⟨#[46]⟩ : ByteArray)) ++ x3) ++ (⟨#[46]⟩ : ByteArray)) ++ x3, (⟨#[32]⟩ : ByteArray) ++ x3, x3 ++ (⟨#[32]⟩ : ByteArray)]
theorem sz_app (a b : ByteArray) : (a ++ b).size = a.size + b.size := ByteArray.size_append
theorem sz_1 (a : UInt8) : (⟨#[a]⟩ : ByteArray).size = 1 := rfl
theorem sz_2 (a b : UInt8) : (⟨#[a, b]⟩ : ByteArray).size = 2 := rfl
set_option maxRecDepth 100000 in
theorem tagged (c : UInt8) (hc : c ∈ decs) : Tagged [33, 33, 110, 117, 108, 108] (L0 ⟨#[c]⟩) ∧ Tagged [33, 33, 98, 111, 111, 108] (L1 ⟨#[c]⟩) ∧ Tagged [33, 33, 105, 110, 116] (L2 ⟨#[c]⟩) ∧ Tagged [33, 33, 102, 108, 111, 97, 116] (L3 ⟨#[c]⟩) ∧ Tagged [33, 33, 115, 116, 114] (L4 ⟨#[c]⟩) := by
  have k : ∀ c ∈ decs, (∀ t ∈ L0 ⟨#[c]⟩, resolveS (B t) = [33, 33, 110, 117, 108, 108] ∧ t.size ≤ 1000) ∧ (∀ t ∈ L1 ⟨#[c]⟩, resolveS (B t) = [33, 33, 98, 111, 111, 108] ∧ t.size ≤ 1000) ∧ (∀ t ∈ L2 ⟨#[c]⟩, resolveS (B t) = [33, 33, 105, 110, 116] ∧ t.size ≤ 1000) ∧ (∀ t ∈ L3 ⟨#[c]⟩, resolveS (B t) = [33, 33, 102, 108, 111, 97, 116] ∧ t.size ≤ 1000) ∧ (∀ t ∈ L4 ⟨#[c]⟩, resolveS (B t) = [33, 33, 115, 116, 114] ∧ t.size ≤ 1000) := by decide +kernel
  exact k c hc
theorem end4 (L : List ByteArray) (k : Nat) (hk : 20 < k) : scholiumlaw08_SchemaForms.l4 k L (L.length : Int) (L.length : Int) = some true := by
  obtain ⟨k, rfl⟩ : ∃ m, k = m + 1 := ⟨k - 1, by omega⟩
  rw [scholiumlaw08_SchemaForms.l4.eq_def]
  simp only
  rw [if_neg (by omega), wakes_spec k (by omega)]; rfl
theorem end3 (c : UInt8) (hc : c ∈ decs) (L : List ByteArray) (k : Nat) (hk : 66 < k) : scholiumlaw08_SchemaForms.l3 k ⟨#[c]⟩ L (L.length : Int) (L.length : Int) = some true := by
  obtain ⟨k, rfl⟩ : ∃ m, k = m + 1 := ⟨k - 1, by omega⟩
  have t := tagged c hc
  have hl := loop4 (L4 ⟨#[c]⟩) (by unfold L4; simp) t.2.2.2.2 26 k 0 rfl (by omega)
  have he := end4 (L4 ⟨#[c]⟩) (k - 26) (by omega)
  rw [he] at hl
  rw [scholiumlaw08_SchemaForms.l3.eq_def]
  simp only
  rw [if_neg (by omega)]
  simp only [sz_app, sz_1, sz_2, Nat.reduceAdd, Nat.reduceLeDiff, if_true]
  exact hl
theorem end2 (c : UInt8) (hc : c ∈ decs) (L : List ByteArray) (k : Nat) (hk : 88 < k) : scholiumlaw08_SchemaForms.l2 k ⟨#[c]⟩ L (L.length : Int) (L.length : Int) = some true := by
  obtain ⟨k, rfl⟩ : ∃ m, k = m + 1 := ⟨k - 1, by omega⟩
  have t := tagged c hc
  have hl := loop3 ⟨#[c]⟩ (L3 ⟨#[c]⟩) (by unfold L3; simp) t.2.2.2.1 12 k 0 rfl (by omega)
  have he := end3 c hc (L3 ⟨#[c]⟩) (k - 12) (by omega)
  rw [he] at hl
  rw [scholiumlaw08_SchemaForms.l2.eq_def]
  simp only
  rw [if_neg (by omega)]
  simp only [sz_app, sz_1, sz_2, Nat.reduceAdd, Nat.reduceLeDiff, if_true]
  exact hl
theorem end1 (c : UInt8) (hc : c ∈ decs) (L : List ByteArray) (k : Nat) (hk : 103 < k) : scholiumlaw08_SchemaForms.l1 k ⟨#[c]⟩ L (L.length : Int) (L.length : Int) = some true := by
  obtain ⟨k, rfl⟩ : ∃ m, k = m + 1 := ⟨k - 1, by omega⟩
  have t := tagged c hc
  have hl := loop2 ⟨#[c]⟩ (L2 ⟨#[c]⟩) (by unfold L2; simp) t.2.2.1 5 k 0 rfl (by omega)
  have he := end2 c hc (L2 ⟨#[c]⟩) (k - 5) (by omega)
  rw [he] at hl
  rw [scholiumlaw08_SchemaForms.l1.eq_def]
  simp only
  rw [if_neg (by omega)]
  simp only [sz_app, sz_1, sz_2, Nat.reduceAdd, Nat.reduceLeDiff, if_true]
  exact hl
theorem end0 (c : UInt8) (hc : c ∈ decs) (L : List ByteArray) (k : Nat) (hk : 119 < k) : scholiumlaw08_SchemaForms.l0 k ⟨#[c]⟩ L (L.length : Int) (L.length : Int) = some true := by
  obtain ⟨k, rfl⟩ : ∃ m, k = m + 1 := ⟨k - 1, by omega⟩
  have t := tagged c hc
  have hl := loop1 ⟨#[c]⟩ (L1 ⟨#[c]⟩) (by unfold L1; simp) t.2.1 6 k 0 rfl (by omega)
  have he := end1 c hc (L1 ⟨#[c]⟩) (k - 6) (by omega)
  rw [he] at hl
  rw [scholiumlaw08_SchemaForms.l0.eq_def]
  simp only
  rw [if_neg (by omega)]
  exact hl
theorem piece : ∀ n, n < 10 → ∃ c ∈ decs, ((⟨#[48, 49, 50, 51, 52, 53, 54, 55, 56, 57]⟩ : ByteArray).extract n (⟨#[48, 49, 50, 51, 52, 53, 54, 55, 56, 57]⟩ : ByteArray).size).extract 0 1 = ⟨#[c]⟩ := by decide +kernel
theorem piece_size (n : Nat) : ((⟨#[48, 49, 50, 51, 52, 53, 54, 55, 56, 57]⟩ : ByteArray).extract n (⟨#[48, 49, 50, 51, 52, 53, 54, 55, 56, 57]⟩ : ByteArray).size).size = 10 - n := by
  rw [ByteArray.size_extract]; show min 10 10 - n = _; omega
theorem SchemaForms : scholiumlaw08_SchemaForms.Pure := by
  intro a _
  obtain ⟨r, hr, h0, h1⟩ := within_spec a 10 (by omega) (by omega)
  refine ⟨400, ?_⟩
  have main : ∀ c ∈ decs, scholiumlaw08_SchemaForms.l0 400 ⟨#[c]⟩ (L0 ⟨#[c]⟩) ((L0 ⟨#[c]⟩).length : Int) 0 = some true := by
    intro c hc
    have hl := loop0 ⟨#[c]⟩ (L0 ⟨#[c]⟩) (by unfold L0; simp) (tagged c hc).1 5 400 0 rfl (by omega)
    rw [end0 c hc (L0 ⟨#[c]⟩) (400 - 5) (by omega)] at hl
    exact hl
  unfold scholiumlaw08_SchemaForms.f
  have h10 : r ≤ 10 := by omega
  have h01 : (0 : Nat) ≤ 1 := by omega
  rw [hr, Option.bind_some, if_pos h0, if_pos h10, if_pos h01]
  obtain ⟨n, rfl⟩ := Int.eq_ofNat_of_zero_le h0
  have hn : n < 10 := by omega
  obtain ⟨c, hc, e⟩ := piece n hn
  have q : (1 : Int) ≤ ((((⟨#[48, 49, 50, 51, 52, 53, 54, 55, 56, 57]⟩ : ByteArray).extract n (⟨#[48, 49, 50, 51, 52, 53, 54, 55, 56, 57]⟩ : ByteArray).size).size : Nat) : Int) := by rw [piece_size]; omega
  rw [Int.toNat_natCast, if_pos q, e, Option.bind_some]
  exact main c hc
end Go.Proofs.Ytoahbekcegcghaa.Pure
