/- Plain laws of chapter 8's scalars: texts that are made of digits, a sign and one thing more. No program in sight. -/
import Derived.Test.YtoahbekcegcghaaSchemaPlainMore
namespace Go.Proofs.Ytoahbekcegcghaa.SchemaPlain
set_option linter.unusedSimpArgs false
set_option linter.unusedVariables false

theorem digit_not (l : List UInt8) (c : UInt8) (hc : dig c = true) (hm : c ∈ l) : nullS l = false ∧ boolS l = false ∧ l ∉ nans ∧ l ∉ infs := by
  have k : ∀ L ∈ [nulls, bools, nans, infs], ∀ x ∈ L, ∀ c ∈ x, dig c = false := by decide +kernel
  have h : ∀ L ∈ [nulls, bools, nans, infs], l ∉ L := fun L hL hl => by have := k L hL l hl c hm; rw [hc] at this; cases this
  unfold nullS boolS
  exact ⟨by rw [decide_eq_false_iff_not]; exact h _ (by simp), by rw [decide_eq_false_iff_not]; exact h _ (by simp), h _ (by simp), h _ (by simp)⟩
theorem res_int (l : List UInt8) (c : UInt8) (hc : dig c = true) (hm : c ∈ l) (hi : intS l = true) : resolveS l = [33, 33, 105, 110, 116] := by
  obtain ⟨h1, h2, _, _⟩ := digit_not l c hc hm
  unfold resolveS; rw [h1, h2, hi]; rfl
theorem res_num (l : List UInt8) (c : UInt8) (hc : dig c = true) (hm : c ∈ l) (hn : c ∈ sgn l) (hi : intS l = false) : resolveS l = if numS (sgn l) = true then [33, 33, 102, 108, 111, 97, 116] else [33, 33, 115, 116, 114] := by
  obtain ⟨h1, h2, h3, _⟩ := digit_not l c hc hm
  obtain ⟨_, _, _, h4⟩ := digit_not (sgn l) c hc hn
  unfold resolveS floatS
  rw [h1, h2, hi]
  simp [h3, h4]

/-- digits, one at least -/
def Digs (X : List UInt8) : Prop := allB dig X = true
theorem Digs.cons {X : List UInt8} (h : Digs X) : ∃ c r, X = c :: r ∧ dig c = true ∧ r.all dig = true := by
  unfold Digs allB at h
  cases X with
  | nil => simp at h
  | cons c r => simp only [List.isEmpty_cons, Bool.not_false, Bool.true_and, List.all_cons, Bool.and_eq_true] at h; exact ⟨c, r, rfl, h.1, h.2⟩
theorem Digs.all {X : List UInt8} (h : Digs X) : X.all dig = true := by
  unfold Digs allB at h; simp only [Bool.and_eq_true] at h; exact h.2
/-- a sign, or none -/
def Sig (s : List UInt8) : Prop := s = [] ∨ s = [45] ∨ s = [43]
theorem sgn_of {s X : List UInt8} (hs : Sig s) (hX : Digs X) (R : List UInt8) : sgn (s ++ (X ++ R)) = X ++ R := by
  obtain ⟨c, r, rfl, hc, _⟩ := hX.cons
  have := dig_range hc
  rcases hs with rfl | rfl | rfl <;> simp only [List.nil_append, List.cons_append, sgn]
  · rw [if_neg (by omega)]
  · simp
  · simp
theorem sgn_point {s : List UInt8} (hs : Sig s) (R : List UInt8) : sgn (s ++ (46 :: R)) = 46 :: R := by
  rcases hs with rfl | rfl | rfl <;> simp [sgn]
theorem sgn_digs {X : List UInt8} (hX : Digs X) (R : List UInt8) : sgn (X ++ R) = X ++ R := by
  have := sgn_of (s := []) (.inl rfl) hX R
  rwa [List.nil_append] at this
theorem pref_none {s X : List UInt8} (hs : Sig s) (hX : Digs X) (c : UInt8) (hc1 : c.toNat ≠ 111) (hc2 : c.toNat ≠ 120) (R : List UInt8) :
    pref8 (s ++ (X ++ c :: R)) = none ∧ pref16 (s ++ (X ++ c :: R)) = none := by
  rcases hs with rfl | rfl | rfl
  · obtain ⟨d, r, rfl, hd, hr⟩ := hX.cons
    cases r with
    | nil => simp only [List.nil_append, List.cons_append, pref8, pref16]; rw [if_neg (by omega), if_neg (by omega)]; exact ⟨rfl, rfl⟩
    | cons e q =>
      simp only [List.all_cons, Bool.and_eq_true] at hr
      have := dig_range hr.1
      simp only [List.nil_append, List.cons_append, pref8, pref16]; rw [if_neg (by omega), if_neg (by omega)]; exact ⟨rfl, rfl⟩
  · exact pref_sign 45 _ (by decide)
  · exact pref_sign 43 _ (by decide)
theorem allB_odd {p : UInt8 → Bool} (X : List UInt8) (c : UInt8) (hc : p c = false) (R : List UInt8) : allB p (X ++ c :: R) = false := by
  unfold allB
  have : (X ++ c :: R).all p = false := by rw [List.all_eq_false]; exact ⟨c, by simp, by simp [hc]⟩
  rw [this]; simp
theorem int_odd {s X : List UInt8} (hs : Sig s) (hX : Digs X) (c : UInt8) (hc : dig c = false) (hc1 : c.toNat ≠ 111) (hc2 : c.toNat ≠ 120) (R : List UInt8) : intS (s ++ (X ++ c :: R)) = false := by
  unfold intS
  rw [sgn_of hs hX, (pref_none hs hX c hc1 hc2 R).1, (pref_none hs hX c hc1 hc2 R).2, allB_odd X c hc R]; rfl
theorem drop_of {X : List UInt8} (hX : X.all dig = true) : ∀ R : List UInt8, (R = [] ∨ ∃ c q, R = c :: q ∧ dig c = false) → (X ++ R).dropWhile dig = R ∧ (X ++ R).takeWhile dig = X := by
  induction X with
  | nil =>
    intro R hR
    rcases hR with rfl | ⟨c, q, rfl, hc⟩
    · exact ⟨rfl, rfl⟩
    · simp [List.dropWhile_cons, List.takeWhile_cons, hc]
  | cons d X ih =>
    intro R hR
    simp only [List.all_cons, Bool.and_eq_true] at hX
    obtain ⟨h1, h2⟩ := ih hX.2 R hR
    simp [List.dropWhile_cons, List.takeWhile_cons, hX.1, h1, h2]
theorem num_of {X : List UInt8} (hX : Digs X) (c : UInt8) (hc : dig c = false) (h46 : c.toNat ≠ 46) (R : List UInt8) : numS (X ++ c :: R) = expS (c :: R) := by
  obtain ⟨h1, h2⟩ := drop_of hX.all (c :: R) (.inr ⟨c, R, rfl, hc⟩)
  obtain ⟨d, r, rfl, _⟩ := hX.cons
  unfold numS
  rw [h1, h2]
  simp only [h46, if_false, behindS]
  rw [if_neg (by simp)]
theorem num_point {X Y : List UInt8} (hX : X.all dig = true) (hY : Y.all dig = true) (h0 : X ≠ [] ∨ Y ≠ []) (R : List UInt8) (hR : R = [] ∨ ∃ c q, R = c :: q ∧ dig c = false) : numS (X ++ 46 :: (Y ++ R)) = expS R := by
  obtain ⟨h1, h2⟩ := drop_of hX (46 :: (Y ++ R)) (.inr ⟨46, _, rfl, by decide⟩)
  obtain ⟨h3, h4⟩ := drop_of hY R hR
  unfold numS
  rw [h1, h2]
  simp only [UInt8.reduceToNat, if_true, h3, h4, behindS]
  rw [if_neg]
  have : 0 < X.length ∨ 0 < Y.length := h0.imp List.length_pos_iff.mpr List.length_pos_iff.mpr
  omega
theorem exp_of {Z : List UInt8} (hZ : Digs Z) : expS (101 :: Z) = true ∧ expS (101 :: 43 :: Z) = true ∧ expS (69 :: 45 :: Z) = true := by
  have e := sgn_digs hZ []
  rw [List.append_nil] at e
  have h : allB dig Z = true := hZ
  refine ⟨?_, ?_, ?_⟩
  · simp only [expS]; rw [e, h]; rfl
  · simp only [expS, sgn]; simp [h]
  · simp only [expS, sgn]; simp [h]

theorem mem_of {s X Y Z : List UInt8} (_ : Sig s) (hX : Digs X) (_ : Digs Y) (_ : Digs Z) : ∃ c, dig c = true ∧ c ∈ X := by
  obtain ⟨c, r, rfl, hc, _⟩ := hX.cons; exact ⟨c, hc, by simp⟩
section
variable {s X Y Z : List UInt8} (hs : Sig s) (hX : Digs X) (hY : Digs Y) (hZ : Digs Z)
include hs hX hY hZ
theorem G1 : resolveS (s ++ X) = [33, 33, 105, 110, 116] := by
  obtain ⟨c, hc, hm⟩ := mem_of hs hX hY hZ
  refine res_int _ c hc (by simp [hm]) ?_
  have e := sgn_of hs hX []
  rw [List.append_nil] at e
  unfold intS; rw [e, show allB dig X = true from hX]; rfl
theorem Gn (c : UInt8) (hc : dig c = false) (hc1 : c.toNat ≠ 111) (hc2 : c.toNat ≠ 120) (R : List UInt8) :
    resolveS (s ++ (X ++ c :: R)) = if numS (X ++ c :: R) = true then [33, 33, 102, 108, 111, 97, 116] else [33, 33, 115, 116, 114] := by
  obtain ⟨d, hd, hm⟩ := mem_of hs hX hY hZ
  have e := sgn_of hs hX (c :: R)
  rw [res_num _ d hd (by simp [hm]) (by rw [e]; simp [hm]) (int_odd hs hX c hc hc1 hc2 R), e]
theorem G2 : resolveS (s ++ (X ++ 46 :: Y)) = [33, 33, 102, 108, 111, 97, 116] := by
  have h := num_point hX.all hY.all (.inr (by obtain ⟨c, r, rfl, _⟩ := hY.cons; simp)) [] (.inl rfl)
  rw [List.append_nil] at h
  rw [Gn hs hX hY hZ 46 (by decide) (by decide) (by decide), h]; rfl
theorem G3 : resolveS (s ++ (X ++ [46])) = [33, 33, 102, 108, 111, 97, 116] := by
  have h := num_point (Y := []) hX.all rfl (.inl (by obtain ⟨c, r, rfl, _⟩ := hX.cons; simp)) [] (.inl rfl)
  rw [List.append_nil] at h
  rw [Gn hs hX hY hZ 46 (by decide) (by decide) (by decide), h]; rfl
theorem G4 : resolveS (s ++ (46 :: Y)) = [33, 33, 102, 108, 111, 97, 116] := by
  obtain ⟨c, hc, hm⟩ := mem_of hs hY hX hZ
  have e := sgn_point hs Y
  have hi : intS (s ++ (46 :: Y)) = false := by
    have hp : pref8 (s ++ (46 :: Y)) = none ∧ pref16 (s ++ (46 :: Y)) = none := by
      rcases hs with rfl | rfl | rfl
      · exact pref_sign 46 _ (by decide)
      · exact pref_sign 45 _ (by decide)
      · exact pref_sign 43 _ (by decide)
    unfold intS; rw [e, hp.1, hp.2]; rfl
  have h := num_point (X := []) rfl hY.all (.inr (by obtain ⟨c, r, rfl, _⟩ := hY.cons; simp)) [] (.inl rfl)
  rw [List.append_nil, List.nil_append] at h
  rw [res_num _ c hc (by simp [hm]) (by rw [e]; simp [hm]) hi, e, h]; rfl
theorem G5 : resolveS (s ++ (X ++ 101 :: Z)) = [33, 33, 102, 108, 111, 97, 116] := by
  rw [Gn hs hX hY hZ 101 (by decide) (by decide) (by decide), num_of hX 101 (by decide) (by decide), (exp_of hZ).1]; rfl
theorem G6 : resolveS (s ++ (X ++ 46 :: (Y ++ 69 :: 45 :: Z))) = [33, 33, 102, 108, 111, 97, 116] := by
  have h := num_point hX.all hY.all (.inr (by obtain ⟨c, r, rfl, _⟩ := hY.cons; simp)) (69 :: 45 :: Z) (.inr ⟨69, _, rfl, by decide⟩)
  rw [Gn hs hX hY hZ 46 (by decide) (by decide) (by decide), h, (exp_of hZ).2.2]; rfl
theorem G7 : resolveS (s ++ (X ++ 101 :: 43 :: Z)) = [33, 33, 102, 108, 111, 97, 116] := by
  rw [Gn hs hX hY hZ 101 (by decide) (by decide) (by decide), num_of hX 101 (by decide) (by decide), (exp_of hZ).2.1]; rfl
theorem G8 : resolveS (s ++ (X ++ 101 :: (Z ++ 46 :: Y))) = [33, 33, 115, 116, 114] := by
  rw [Gn hs hX hY hZ 101 (by decide) (by decide) (by decide), num_of hX 101 (by decide) (by decide)]
  have : expS (101 :: (Z ++ 46 :: Y)) = false := by simp only [expS]; rw [sgn_digs hZ, allB_odd Z 46 (by decide)]; rfl
  rw [this]; rfl
theorem G9 : resolveS (s ++ (X ++ [32])) = [33, 33, 115, 116, 114] := by
  rw [Gn hs hX hY hZ 32 (by decide) (by decide) (by decide), num_of hX 32 (by decide) (by decide)]; rfl
theorem G13 : resolveS (s ++ (X ++ 44 :: Y)) = [33, 33, 115, 116, 114] := by
  rw [Gn hs hX hY hZ 44 (by decide) (by decide) (by decide), num_of hX 44 (by decide) (by decide)]; rfl
theorem G10 : resolveS (X ++ (s ++ [120])) = [33, 33, 115, 116, 114] := by
  obtain ⟨d, hd, hm⟩ := mem_of hs hX hY hZ
  have e := sgn_digs hX (s ++ [120])
  have hn : numS (X ++ (s ++ [120])) = false := by
    rcases hs with rfl | rfl | rfl
    · rw [List.nil_append, num_of hX 120 (by decide) (by decide)]; rfl
    · exact (num_of hX 45 (by decide) (by decide) [120]).trans rfl
    · exact (num_of hX 43 (by decide) (by decide) [120]).trans rfl
  have hi : intS (X ++ (s ++ [120])) = false := by
    rcases hs with rfl | rfl | rfl
    · obtain ⟨c, r, rfl, hc, hr⟩ := hX.cons
      rw [List.nil_append] at *
      unfold intS; rw [e, allB_odd _ 120 (by decide)]
      cases r with
      | nil => simp only [List.cons_append, List.nil_append, pref8, pref16]; split <;> split <;> rfl
      | cons f q =>
        simp only [List.all_cons, Bool.and_eq_true] at hr
        have := dig_range hr.1
        simp only [List.cons_append, pref8, pref16]; rw [if_neg (by omega), if_neg (by omega)]; rfl
    · have := int_odd (s := []) (.inl rfl) hX 45 (by decide) (by decide) (by decide) [120]; rwa [List.nil_append] at this
    · have := int_odd (s := []) (.inl rfl) hX 43 (by decide) (by decide) (by decide) [120]; rwa [List.nil_append] at this
  rw [res_num _ d hd (by simp [hm]) (by rw [e]; simp [hm]) hi, e, hn]; rfl
theorem G11 : resolveS (48 :: 120 :: X) = [33, 33, 105, 110, 116] := by
  obtain ⟨d, hd, hm⟩ := mem_of hs hX hY hZ
  refine res_int _ d hd (by simp [hm]) ?_
  have h : allB hexd X = true := by
    have h := hX
    unfold Digs allB at h
    unfold allB
    simp only [Bool.and_eq_true, List.all_eq_true] at h ⊢
    exact ⟨h.1, fun c hc => by unfold hexd; rw [h.2 c hc]; rfl⟩
  unfold intS
  have e : pref16 (48 :: 120 :: X) = some X := by simp [pref16]
  rw [e]; simp [ofO, h]
end
theorem G12 (X : List UInt8) : resolveS (48 :: 88 :: X) = [33, 33, 115, 116, 114] := by
  have e : sgn (48 :: 88 :: X) = 48 :: 88 :: X := by simp [sgn]
  have hi : intS (48 :: 88 :: X) = false := by
    have h1 : allB dig (48 :: 88 :: X) = false := allB_odd [48] 88 (by decide) X
    unfold intS; rw [e, h1]; simp [pref8, pref16, ofO]
  have hn : numS (48 :: 88 :: X) = false := by
    have := num_of (X := [48]) (show allB dig [48] = true by decide) 88 (by decide) (by decide) X
    exact this.trans rfl
  rw [res_num _ 48 (by decide) (by simp) (by rw [e]; simp) hi, e, hn]; rfl
end Go.Proofs.Ytoahbekcegcghaa.SchemaPlain
