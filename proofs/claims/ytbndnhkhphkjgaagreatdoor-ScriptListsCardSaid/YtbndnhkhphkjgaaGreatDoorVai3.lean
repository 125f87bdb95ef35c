/- The abstract machine: loads, stores and new rows do in the model what they do in its memory. -/
import Derived.Test.YtbndnhkhphkjgaaGreatDoorVai2
namespace Go.Vai
set_option linter.unusedVariables false
set_option linter.unusedSimpArgs false
set_option linter.unusedSectionVars false
variable [Lane]
variable {P : Program} {base : Nat} {φ : Emb} {h h' : Heap} {w w' : World}

theorem add_plain (b o j : Nat) : (⟨b, o, none⟩ : Addr).add j = ⟨b, o + j, none⟩ := by
  unfold Addr.add
  by_cases e : j = 0
  · subst e; rfl
  · rw [if_neg e]
theorem LR.form {a : Loc} {ad : Addr} (k : LR φ a ad) : ad = ⟨ad.block, ad.off, none⟩ := by
  obtain ⟨c, _, _, _, rfl⟩ := k; rfl
theorem add_zero (ad : Addr) : ad.add 0 = ad := rfl
theorem loadC_cell (H : HR base φ h w) {a : Loc} {ad : Addr} (k : LR φ a ad) {j : Nat} {v : AV} (hl : loadC h a j = some v) :
    ∃ u, w.cell? (ad.add j) = some u ∧ VR φ w v u ∧ oneCell v = true := by
  unfold loadC at hl
  split at hl
  · rename_i ro gen cs hg
    split at hl
    · rename_i hlt
      split at hl
      · rename_i lo v' hc
        split at hl
        · rename_i hle
          cases hl
          obtain ⟨c, h1, h2, h3, rfl⟩ := k
          obtain ⟨_, _, _, arr, t, fz, ha, _, hk⟩ := H.cells _ _ _ _ _ _ hg h1
          obtain ⟨u, hu, hv, ho⟩ := hk _ _ _ hc hle (by omega) (by omega)
          refine ⟨u, ?_, hv, ho⟩
          rw [add_plain]
          simp only [World.cell?, ha, Option.isSome_none, Bool.false_eq_true, if_false]
          rw [← hu]; congr 1; omega
        · cases hl
      · cases hl
    · cases hl
  · cases hl
theorem loadN_cells (H : HR base φ h w) {a : Loc} {ad : Addr} (k : LR φ a ad) : ∀ (n j : Nat) (vs : List AV) (acc : Array Value), loadN h a j n = some vs →
    ∃ us : List Value, (loadCellsFrom ad j n acc).run P w = .ok (acc ++ us.toArray) w ∧ All2 (VR φ w) vs us ∧ (∀ v ∈ vs, oneCell v = true)
  | 0, j, vs, acc, hl => by
    simp only [loadN, Option.some.injEq] at hl
    subst hl
    exact ⟨[], by simp [loadCellsFrom], .nil, by simp⟩
  | n + 1, j, vs, acc, hl => by
    simp only [loadN, Option.bind_eq_some_iff, Option.some.injEq] at hl
    obtain ⟨v, hv, r, hr, rfl⟩ := hl
    obtain ⟨u, hu, hvr, ho⟩ := loadC_cell H k hv
    obtain ⟨us, h1, h2, h3⟩ := loadN_cells H k n (j + 1) r (acc.push u) hr
    refine ⟨u :: us, ?_, .cons hvr h2, by simpa [ho] using h3⟩
    simp only [loadCellsFrom, Sem.run_bind, load, Sem.run, hu, Result.andThen]
    rw [h1]; simp

/-- memory that turns one cell: what the world's cell then is -/
theorem storeC_cell (H : HR base φ h w) {a : Loc} {ad : Addr} (k : LR φ a ad) {j : Nat} {v : AV} {u : Value} (hv : VR φ w v u) (hs : storeC h a j v = some h') :
    w.cell? (ad.add j) ≠ none ∧ w.frozen? (ad.add j) = false ∧ oneCell v = true ∧ HR base φ h' (w.setCell (ad.add j) u) ∧ Kept φ h w (w.setCell (ad.add j) u) ∧ Rows w (w.setCell (ad.add j) u) ∧
    h'.next = h.next ∧ (∀ b, wr (h'.objs.get b) = wr (h.objs.get b)) ∧
    (∀ b m n cur g c, h.objs.get b = some (.mapit m n cur) → φ b g = some c → (w.setCell (ad.add j) u).heap[c.cb]? = w.heap[c.cb]? ∧ h'.objs.get b = h.objs.get b) := by
  unfold storeC at hs
  split at hs
  case h_2 => cases hs
  rename_i gen cs hg
  split at hs
  case isFalse => cases hs
  rename_i hc0
  obtain ⟨hgen, hlt, hone⟩ := hc0
  split at hs
  case h_2 => cases hs
  rename_i old hold
  simp only [Option.bind_eq_some_iff, Option.some.injEq] at hs
  obtain ⟨cs', hcs, o, ho, rfl⟩ := hs
  obtain ⟨c, h1, h2, h3, rfl⟩ := k
  obtain ⟨hg1, hb, hlo, arr, t, fz, ha, hfz, hk⟩ := H.cells _ _ _ _ _ _ hg h1
  obtain ⟨lo0, v0⟩ := old
  obtain ⟨u0, hu0, _, _⟩ := hk _ _ _ hold (by have := hlo _ _ _ hold; omega) (by omega) (by omega)
  have eoff : c.co + (a.i - c.ao) + j = c.co + (a.i + j - c.ao) := by omega
  have hin : c.co + (a.i - c.ao) + j < arr.size := by
    rw [eoff]
    rcases Nat.lt_or_ge (c.co + (a.i + j - c.ao)) arr.size with q | q
    · exact q
    · rw [Array.getElem?_eq_none q] at hu0; cases hu0
  have hset : (w.setCell ⟨c.cb, c.co + (a.i - c.ao) + j, none⟩ u).heap = w.heap.modify c.cb fun
      | .cells c' elem frozen => .cells (c'.setIfInBounds (c.co + (a.i - c.ao) + j) u) elem frozen
      | o => o := rfl
  have hcbs : c.cb < w.heap.size := H.range _ _ _ h1
  have hat : (w.setCell ⟨c.cb, c.co + (a.i - c.ao) + j, none⟩ u).heap[c.cb]? = some (.cells (arr.setIfInBounds (c.co + (a.i - c.ao) + j) u) t fz) := by
    rw [hset, Array.getElem?_modify, if_pos rfl, ha]; rfl
  have hne : ∀ cb, cb ≠ c.cb → (w.setCell ⟨c.cb, c.co + (a.i - c.ao) + j, none⟩ u).heap[cb]? = w.heap[cb]? := by
    intro cb hcb
    rw [hset, Array.getElem?_modify, if_neg (fun e => hcb e.symm)]
  have hsize : (w.setCell ⟨c.cb, c.co + (a.i - c.ao) + j, none⟩ u).heap.size = w.heap.size := by rw [hset, Array.size_modify]
  have hrows : Rows w (w.setCell ⟨c.cb, c.co + (a.i - c.ao) + j, none⟩ u) := by
    rintro cb n ⟨arr', t', fz', q1, q2, q3⟩
    by_cases e : cb = c.cb
    · subst e
      rw [ha] at q1; cases q1
      exact ⟨_, _, _, hat, by simpa using q2, by simpa using q3⟩
    · exact ⟨_, _, _, (hne cb e).trans q1, q2, q3⟩
  rw [add_plain]
  refine ⟨?_, ?_, hone, ?_, ?_, hrows, rfl, ?_, ?_⟩
  · simp only [World.cell?, ha, Option.isSome_none, Bool.false_eq_true, if_false]
    rw [eoff, hu0]; simp
  · simp only [World.frozen?, ha]
    have := (hfz rfl).2 _ hin
    rw [Bool.eq_false_iff]
    intro q
    simp only [Bool.and_eq_true, decide_eq_true_eq] at q
    exact this q
  · refine ⟨?_, by rw [hsize]; exact H.low, fun b g c e => by rw [hsize]; exact H.range _ _ _ e, H.inj, ?_, ?_, ?_⟩
    · intro b hb'
      obtain ⟨q1, q2⟩ := H.fresh b hb'
      refine ⟨?_, q2⟩
      show o.get b = none
      rw [Tr.get_set ho, if_neg, q1]
      rintro rfl; rw [q1] at hg; cases hg
    · intro b ro gen' cs2 e1 i lo v' hi
      have e1' : o.get b = some (.cells ro gen' cs2) := e1
      rw [Tr.get_set ho] at e1'
      by_cases eb : b = a.b
      · subst eb
        rw [if_pos rfl] at e1'
        cases e1'
        rw [Tr.get_set hcs] at hi
        by_cases ei : i = a.i + j
        · subst ei; rw [if_pos rfl] at hi; cases hi; exact Nat.le_refl _
        · rw [if_neg ei] at hi; exact H.los _ _ _ _ hg _ _ _ hi
      · rw [if_neg eb] at e1'; exact H.los _ _ _ _ e1' _ _ _ hi
    · intro b ro gen' cs2 g2 c2 e1 e2
      have e1' : o.get b = some (.cells ro gen' cs2) := e1
      rw [Tr.get_set ho] at e1'
      by_cases eb : b = a.b
      · subst eb
        rw [if_pos rfl] at e1'
        cases e1'
        obtain ⟨p1, p2, p3, arr2, t2, fz2, pa, pf, pk⟩ := H.cells _ _ _ _ _ _ hg e2
        refine ⟨p1, p2, ?_, ?_⟩
        · intro i lo v' hi
          rw [Tr.get_set hcs] at hi
          by_cases ei : i = a.i + j
          · subst ei; rw [if_pos rfl] at hi; cases hi; exact Nat.le_refl _
          · rw [if_neg ei] at hi; exact p3 _ _ _ hi
        · by_cases ecb : c2.cb = c.cb
          · obtain ⟨_, eco, eao⟩ := H.inj _ _ _ _ _ _ e2 h1 ecb
            rw [ecb, ha] at pa; cases pa
            refine ⟨_, _, _, by rw [ecb]; exact hat, by simpa using pf, ?_⟩
            intro i lo v' hi hle hao hie
            rw [Tr.get_set hcs] at hi
            by_cases ei : i = a.i + j
            · subst ei
              rw [if_pos rfl] at hi; cases hi
              refine ⟨u, ?_, hv.mono (Ext.refl _) hrows, hone⟩
              have : c2.co + (a.i + j - c2.ao) = c.co + (a.i - c.ao) + j := by omega
              rw [this, Array.getElem?_setIfInBounds_self, if_pos hin]
            · rw [if_neg ei] at hi
              obtain ⟨u', q1, q2, q3⟩ := pk _ _ _ hi hle hao hie
              refine ⟨u', ?_, q2.mono (Ext.refl _) hrows, q3⟩
              rw [Array.getElem?_setIfInBounds_ne (by omega)]; exact q1
          · refine ⟨_, _, _, (hne _ ecb).trans pa, pf, ?_⟩
            intro i lo v' hi hle hao hie
            rw [Tr.get_set hcs] at hi
            by_cases ei : i = a.i + j
            · subst ei
              rw [if_pos rfl] at hi; cases hi
              -- an elder generation in other memory: it does not know this place any more
              exfalso
              have hgg : g2 ≤ gen := p1
              have : g2 = a.g := by omega
              subst this
              rw [e2] at h1; cases h1; exact ecb rfl
            · rw [if_neg ei] at hi
              obtain ⟨u', q1, q2, q3⟩ := pk _ _ _ hi hle hao hie
              exact ⟨u', q1, q2.mono (Ext.refl _) hrows, q3⟩
      · rw [if_neg eb] at e1'
        obtain ⟨p1, p2, p3, arr2, t2, fz2, pa, pf, pk⟩ := H.cells _ _ _ _ _ _ e1' e2
        have ecb : c2.cb ≠ c.cb := fun e => eb (H.inj _ _ _ _ _ _ e2 h1 e).1
        refine ⟨p1, p2, p3, _, _, _, (hne _ ecb).trans pa, pf, ?_⟩
        intro i lo v' hi hle hao hie
        obtain ⟨u', q1, q2, q3⟩ := pk _ _ _ hi hle hao hie
        exact ⟨u', q1, q2.mono (Ext.refl _) hrows, q3⟩
    · intro b x g2 c2 e1 hx e2
      have e1' : o.get b = some x := e1
      rw [Tr.get_set ho] at e1'
      by_cases eb : b = a.b
      · subst eb; rw [if_pos rfl] at e1'; cases e1'; cases hx
      · rw [if_neg eb] at e1'
        obtain ⟨p1, p0, ob, p2, p3⟩ := H.other _ _ _ _ e1' hx e2
        have ecb : c2.cb ≠ c.cb := fun e => eb (H.inj _ _ _ _ _ _ e2 h1 e).1
        exact ⟨p1, p0, ob, (hne _ ecb).trans p2, p3.mono (Ext.refl _) hrows⟩
  · refine ⟨rfl, rfl, rfl, by rw [hsize]; exact Nat.le_refl _, ?_⟩
    intro cb hcb hk'
    exact hne cb fun e => hk' a.b a.g c h1 (by rw [hg]; rfl) e.symm
  · intro b
    show wr (o.get b) = _
    rw [Tr.get_set ho]
    by_cases eb : b = a.b
    · subst eb; rw [if_pos rfl, hg]; rfl
    · rw [if_neg eb]
  · intro b m n cur g2 c2 e1 e2
    have eb : b ≠ a.b := by rintro rfl; rw [hg] at e1; cases e1
    exact ⟨hne _ fun e => eb (H.inj _ _ _ _ _ _ e2 h1 e).1, by show o.get b = _; rw [Tr.get_set ho, if_neg eb]⟩
end Go.Vai
