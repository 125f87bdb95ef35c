/- The abstract machine: operations that only compute, continued: slices, places, fields, iterators. -/
import Derived.Test.YtbndnhkhphkjgaaGreatDoorVai6
import Derived.Laws.RangeAny
namespace Go.Vai
set_option linter.unusedVariables false
set_option linter.unusedSimpArgs false
set_option linter.unusedSectionVars false
variable [Lane]
variable {P : Program} {base : Nat} {φ φ' φ'' : Emb} {h h' h'' : Heap} {w w' w'' : World}

theorem unA_ok {op : UnOp} {x v : AV} {xv : Value} (hx : VR φ w x xv) (e : unA op x = some v) : ∃ u, (Op.unary op xv).run P w = .ok u w ∧ VR φ w v u := by
  unfold unA at e
  split at e
  · split at e
    · cases e; cases hx; exact ⟨_, rfl, .bool _⟩
    · cases e
  · split at e
    · cases e; cases hx; exact ⟨_, rfl, .int _ _⟩
    · cases e
  · cases e
theorem boundA_ok {top k : Nat} {x : AV} {xv : Value} (hx : VR φ w x xv) (e : boundA top x = some k) (c : BoundsCode) : (Instr.sliceBound xv top c).run P w = .ok k w ∧ k ≤ top := by
  unfold boundA at e
  split at e
  · split at e
    · rename_i i hi
      cases e; cases hx
      refine ⟨?_, by omega⟩
      simp [Instr.sliceBound, asIntOf, hi]
    · cases e
  · cases e
/-- a bound that may be left out -/
inductive OptR (φ : Emb) (w : World) : Option AV → Option Value → Prop where
  | none : OptR φ w none none
  | some {x : AV} {v : Value} (h : VR φ w x v) : OptR φ w (some x) (some v)
theorem bounds_ok {isSlice : Bool} {len cap top h' k : Nat} {lo hi : Option AV} {lov hiv : Option Value} (hlo : OptR φ w lo lov) (hhi : OptR φ w hi hiv) (htop : top ≤ cap) (hlen : len ≤ top)
    (e1 : hiA top len hi = some h') (e2 : hiA h' 0 lo = some k) : (Instr.sliceBounds isSlice len cap lov hiv none).run P w = .ok (k, h', cap) w ∧ k ≤ h' ∧ h' ≤ top := by
  have b1 : (match hiv with | some v => Instr.sliceBound v cap (if isSlice then .sliceAcap else .sliceAlen) | none => pure len : Sem Nat).run P w = .ok h' w ∧ h' ≤ top := by
    cases hhi with
    | none => simp only [hiA, Option.some.injEq] at e1; subst e1; exact ⟨rfl, hlen⟩
    | some hx =>
      simp only [hiA] at e1
      unfold boundA at e1
      split at e1
      · split at e1
        · rename_i i hi
          cases e1; cases hx
          refine ⟨?_, by omega⟩
          have : 0 ≤ i ∧ i ≤ (cap : Int) := by omega
          simp [Instr.sliceBound, asIntOf, this]
        · cases e1
      · cases e1
  have b2 : (match lov with | some v => Instr.sliceBound v h' .sliceB | none => pure 0 : Sem Nat).run P w = .ok k w ∧ k ≤ h' := by
    cases hlo with
    | none => simp only [hiA, Option.some.injEq] at e2; subst e2; exact ⟨rfl, Nat.zero_le _⟩
    | some hx => exact boundA_ok hx e2 _
  refine ⟨?_, b2.2, b1.2⟩
  unfold Instr.sliceBounds
  cases hhi <;> cases hlo <;> simp_all
theorem extract_mk (l : List UInt8) (a b : Nat) : (⟨⟨l⟩⟩ : ByteArray).extract a b = ⟨⟨(l.drop a).take (b - a)⟩⟩ := by
  apply ByteArray.ext
  apply Array.ext'
  exact Lib.extract_data _ a b
theorem LR.shift {a : Loc} {ad : Addr} (k : LR φ a ad) (n : Nat) : LR φ { a with i := a.i + n } (ad.add n) := by
  obtain ⟨c, h1, h2, h3, rfl⟩ := k
  refine ⟨c, h1, h2, by simp only; omega, ?_⟩
  rw [add_plain]
  congr 1
  simp only; omega
theorem LR.add_off {a : Loc} {ad : Addr} (k : LR φ a ad) (n : Nat) : (ad.add n).block = ad.block ∧ (ad.add n).off = ad.off + n := by
  obtain ⟨c, h1, h2, h3, rfl⟩ := k
  rw [add_plain]; exact ⟨rfl, rfl⟩
theorem sliceA_ok {t : TypeId} {x v : AV} {xv : Value} {lo hi : Option AV} {lov hiv : Option Value} (hx : VR φ w x xv) (hlo : OptR φ w lo lov) (hhi : OptR φ w hi hiv) (e : sliceA P t x lo hi = some v) :
    ∃ u, (Instr.sliceAt t xv lov hiv none).run P w = .ok u w ∧ VR φ w v u := by
  unfold sliceA at e
  split at e
  · rename_i hu
    split at e
    · rename_i l
      simp only [Option.bind_eq_some_iff, Option.some.injEq] at e
      obtain ⟨h', e1, k, e2, rfl⟩ := e
      cases hx
      obtain ⟨r1, r2, r3⟩ := bounds_ok (P := P) (isSlice := false) hlo hhi (Nat.le_refl l.length) (Nat.le_refl l.length) e1 e2
      refine ⟨_, ?_, .str _⟩
      unfold Instr.sliceAt
      simp only [Sem.run_bind, run_underlying hu, Result.andThen_ok]
      unfold Instr.slice
      simp only [Sem.run_bind, run_underlying hu, Result.andThen_ok, Option.isSome_none, Bool.false_eq_true, if_false, size_mk, r1, extract_mk, Sem.run_pure]
    · cases e
  · rename_i el hu
    split at e
    · simp only [Option.bind_eq_some_iff] at e
      obtain ⟨h', e1, k, e2, esz⟩ := e
      cases hx
      obtain ⟨r1, r2, r3⟩ := bounds_ok (P := P) (isSlice := true) hlo hhi (Nat.le_refl 0) (Nat.le_refl 0) e1 e2
      obtain rfl : h' = 0 := by omega
      obtain rfl : k = 0 := by omega
      obtain ⟨n, hn, esz⟩ := esz
      cases esz
      refine ⟨.slice none 0 0, ?_, .nilSlice⟩
      unfold Instr.sliceAt
      simp only [Sem.run_bind, run_underlying hu, Result.andThen_ok]
      unfold Instr.slice
      simp only [Sem.run_bind, run_underlying hu, Result.andThen_ok, r1, run_sizeT hn, Sem.run_pure]
      rfl
    · rename_i a len room sz
      simp only [Option.bind_eq_some_iff] at e
      obtain ⟨n, hn, e⟩ := e
      split at e
      case isFalse => cases e
      rename_i hnz
      subst hnz
      simp only [Option.bind_eq_some_iff, Option.some.injEq] at e
      obtain ⟨h', e1, k, e2, rfl⟩ := e
      cases hx with
      | slice _ ad _ _ _ cap hn' hr hz he hh =>
      obtain ⟨r1, r2, r3⟩ := bounds_ok (P := P) (isSlice := true) hlo hhi hr hn' e1 e2
      refine ⟨.slice (some (if cap = k then ad else ad.add (k * n))) (h' - k) (cap - k), ?_, ?_⟩
      · unfold Instr.sliceAt
        simp only [Sem.run_bind, run_underlying hu, Result.andThen_ok]
        unfold Instr.slice
        simp only [Sem.run_bind, run_underlying hu, Result.andThen_ok, r1, run_sizeT hn, Sem.run_pure]
        split <;> rfl
      · have hle : a.i + k * n + (room - k) * n ≤ a.e := by
          have : k * n + (room - k) * n = room * n := by rw [← Nat.add_mul]; congr 1; omega
          omega
        refine .slice _ _ _ _ _ _ (by omega) (by omega) hz hle ?_
        rcases hh with hh | ⟨h1, h2⟩
        · exact .inl (by omega)
        · by_cases hk : cap = k
          · exact .inl (by omega)
          · rw [if_neg hk]
            right
            refine ⟨h1.shift _, ?_⟩
            obtain ⟨o1, o2⟩ := h1.add_off (k * n)
            rw [o1, o2]
            obtain ⟨arr, t', fz, p1, p2, p3⟩ := h2
            refine ⟨arr, t', fz, p1, ?_, p3⟩
            have : k * n + (cap - k) * n = cap * n := by rw [← Nat.add_mul]; congr 1; omega
            omega
    · cases e
  · cases e

theorem atA_ok {a : Loc} {ad : Addr} {len n : Nat} {i : Int} {v : AV} (e : atA a len n i = some v) : (0 ≤ i ∧ i < (len : Int)) ∧ v = .ptr (some { a with i := a.i + i.toNat * n }) := by
  unfold atA at e
  split at e
  · rename_i hc; cases e; exact ⟨hc, rfl⟩
  · cases e
theorem indexAddrA_ok {t : TypeId} {x ix v : AV} {xv iv : Value} (hx : VR φ w x xv) (hi : VR φ w ix iv) (e : indexAddrA P t x ix = some v) :
    ∃ u, (Instr.indexAt t xv iv).run P w = .ok u w ∧ VR φ w v u := by
  unfold indexAddrA at e
  split at e
  case h_2 => cases e
  rename_i k i
  cases hi
  have r0 : (asIntOf (.int k i)).run P w = .ok (k, i) w := rfl
  split at e
  · rename_i el hu
    split at e
    case h_2 => cases e
    rename_i a len room sz
    simp only [Option.bind_eq_some_iff] at e
    obtain ⟨n, hn, e⟩ := e
    split at e
    case isFalse => cases e
    rename_i hnz
    subst hnz
    obtain ⟨hc, rfl⟩ := atA_ok (ad := ⟨0, 0, none⟩) e
    cases hx with
    | slice _ ad _ _ _ cap hn' hr hz he hh =>
    rcases hh with hh | ⟨h1, h2⟩
    · exfalso; omega
    · refine ⟨_, ?_, .ptr _ _ (h1.shift (i.toNat * n))⟩
      unfold Instr.indexAt
      simp only [Sem.run_bind, r0, run_underlying hu, Result.andThen_ok, Sem.run_pure, hc, and_self, if_true, run_sizeT hn]
  · rename_i len el hu
    split at e
    case h_2 => cases e
    rename_i a
    simp only [Option.bind_eq_some_iff] at e
    obtain ⟨n, hn, e⟩ := e
    obtain ⟨hc, rfl⟩ := atA_ok (ad := ⟨0, 0, none⟩) e
    cases hx with
    | ptr _ ad h1 =>
    have r1 : (Instr.sureAddr (.pointer (some ad))).run P w = .ok ad w := rfl
    refine ⟨_, ?_, .ptr _ _ (h1.shift (i.toNat * n))⟩
    unfold Instr.indexAt
    simp only [Sem.run_bind, r0, r1, run_underlying hu, Result.andThen_ok, Sem.run_pure, hc, and_self, if_true, run_sizeT hn]
  · cases e
theorem indexA_ok {t : TypeId} {x ix v : AV} {xv iv : Value} (hx : VR φ w x xv) (hi : VR φ w ix iv) (e : indexA P t x ix = some v) :
    ∃ u, (Instr.index t xv iv).run P w = .ok u w ∧ VR φ w v u := by
  unfold indexA at e
  split at e
  · rename_i l k i hu
    split at e
    · rename_i h0
      simp only [Option.map_eq_some_iff] at e
      obtain ⟨c, hc, rfl⟩ := e
      cases hx; cases hi
      refine ⟨_, ?_, .int _ _⟩
      have r0 : (asIntOf (.int k i)).run P w = .ok (k, i) w := rfl
      have hb : (⟨⟨l⟩⟩ : ByteArray)[i.toNat]? = some c := by
        have hlt : i.toNat < l.length := (List.getElem?_eq_some_iff.mp hc).1
        rw [getElem?_pos _ _ (by exact hlt)]
        have := (List.getElem?_eq_some_iff.mp hc).2
        rw [← this]; rfl
      unfold Instr.index
      simp only [Sem.run_bind, r0, run_underlying hu, Result.andThen_ok, h0, if_true, hb, Sem.run_pure]
    · cases e
  · cases e
theorem fieldAddrA_ok {t : TypeId} {x v : AV} {xv : Value} {f : Nat} (hx : VR φ w x xv) (e : fieldAddrA P t x f = some v) :
    ∃ u, (Instr.fieldAt t xv f).run P w = .ok u w ∧ VR φ w v u := by
  unfold fieldAddrA at e
  split at e
  · rename_i fs a hu
    simp only [Option.bind_eq_some_iff] at e
    obtain ⟨fd, hf, n, hn, e⟩ := e
    split at e
    case isFalse => cases e
    rename_i h0
    cases e
    cases hx with
    | ptr _ ad h1 =>
    have r1 : (Instr.sureAddr (.pointer (some ad))).run P w = .ok ad w := rfl
    refine ⟨_, ?_, .ptr _ _ (h1.shift fd.offset)⟩
    unfold Instr.fieldAt fieldPlace
    simp only [Sem.run_bind, run_underlying hu, Result.andThen_ok, hf, r1, run_sizeT hn, h0, if_false, Sem.run_pure]
  · cases e
theorem fieldA_ok {t : TypeId} {x v : AV} {xv : Value} {f : Nat} (hx : VR φ w x xv) (e : fieldA P t x f = some v) :
    ∃ u, (Instr.field t xv f).run P w = .ok u w ∧ VR φ w v u := by
  unfold fieldA at e
  split at e
  · rename_i fs cs hu
    simp only [Option.bind_eq_some_iff] at e
    obtain ⟨fd, hf, g, hg, e⟩ := e
    cases hx with
    | agg _ vs hvs =>
    have r1 : (asAgg (.agg ⟨vs⟩)).run P w = .ok ⟨vs⟩ w := rfl
    cases g with
    | true =>
      simp only [if_true, Option.map_eq_some_iff] at e
      obtain ⟨n, hn, rfl⟩ := e
      refine ⟨.agg ⟨(vs.drop fd.offset).take n⟩, ?_, .agg _ _ ((hvs.drop _).take _)⟩
      unfold Instr.field part
      simp only [Sem.run_bind, run_underlying hu, Result.andThen_ok, hf, r1, run_isAggT hg, if_true, run_sizeT hn, Sem.run_pure]
      congr 2
      simp
    | false =>
      simp only [Bool.false_eq_true, if_false] at e
      obtain ⟨u, h1, h2⟩ := hvs.get _ _ e
      refine ⟨u, ?_, h2⟩
      unfold Instr.field part
      simp only [Sem.run_bind, run_underlying hu, Result.andThen_ok, hf, r1, run_isAggT hg, Bool.false_eq_true, if_false]
      have : (⟨vs⟩ : Array Value)[fd.offset]? = some u := by simpa using h1
      rw [this]; rfl
  · cases e
end Go.Vai
