/- slices.Insert over slices of type 38: what its own text does, in rows as they lie: where there is room, and where there is none. -/
import Derived.Test.YtjnpggeibjbfmaaGreatDoorXaiE
import Derived.Test.YtjnpggeibjbfmaaGreatDoorProg
import Derived.Shelf.Spec.SlicesInsert
import Derived.Lib.AppendZerosOnto
import Derived.WalkKit
import Derived.Tactics
import Derived.KernelRfl
namespace Go.Proofs.YtjnpggeibjbfmaaGreatDoor.Insw234
open Go.Proofs Go.Vai Go.RowKit Go.Lib
set_option linter.unusedVariables false
set_option maxHeartbeats 4000000 in
set_option maxRecDepth 100000 in
theorem room (w : World) (sb so n c i vb vo m vc : Nat) {sarr varr : Array Value} {st vt : TypeId} {sfz : Nat × Nat} (hs : w.heap[sb]? = some (.cells sarr st sfz)) (hf : FzOk sfz sarr.size) (hsz : so + c * 1 ≤ sarr.size)
    (hv : w.heap[vb]? = some (.cells varr vt (0, 0))) (hvz : vo + m * 1 ≤ varr.size) (hne : vb ≠ sb) (hi : i < n) (hm : 0 < m) (hb : n + m ≤ 65536) (hroom : n + m ≤ c)
    (h1 : ∀ (j : Nat) u, i * 1 ≤ j → j < n * 1 → sarr[so + j]? = some u → OneV u) (h2 : ∀ (j : Nat) u, j < m * 1 → varr[vo + j]? = some u → OneV u) :
    Calls Tryz.prog 234 #[.slice (some ⟨sb, so, none⟩) n c, .int .i64 i, .slice (some ⟨vb, vo, none⟩) m vc] w fun e w' =>
      e = .returned (.slice (some ⟨sb, so, none⟩) (n + m) c) ∧ ∃ k arr', w' = { setBlock w sb (.cells arr' st sfz) with drawn := k } ∧ arr'.size = sarr.size ∧
        (∀ j, j < so + i * 1 ∨ so + (n + m) * 1 ≤ j → arr'[j]? = sarr[j]?) ∧ (∀ j, j < m * 1 → arr'[so + i * 1 + j]? = varr[vo + j]?) ∧ (∀ j, j < (n - i) * 1 → arr'[so + (i + m) * 1 + j]? = sarr[so + i * 1 + j]?) := by
  have hz1 : ¬ ((m : Int) = 0) := by omega
  have hz2 : ¬ ((i : Int) = (n : Int)) := by omega
  have hw1 : IntKind.i64.wrap ((i : Int) + (m : Int)) = (i : Int) + (m : Int) := by rw [IntKind.wrap_i64]; omega
  have hb1 : (0 : Int) ≤ (i : Int) + (m : Int) := by omega
  have hin : i ≤ n := by omega
  have htn : ((i : Int) + (m : Int)).toNat = i + m := by omega
  have hb2 : ¬ (c = i + m) := by omega
  have hb3 : (i : Int) ≤ (n : Int) + (m : Int) := by omega
  have hb4 : ¬ (c = i) := by omega
  have shv : w.shape? vb = some (vt, varr.size) := by unfold World.shape?; rw [hv]
  have shs : w.shape? sb = some (st, sarr.size) := by unfold World.shape?; rw [hs]
  have hov : ∀ off lb cb, (callFunc 278 #[.slice (some ⟨vb, vo, none⟩) m vc, .slice (some ⟨sb, off, none⟩) lb cb]).run Tryz.prog w = .ok (.value (.bool false)) w := fun off lb cb => by
    rw [run_callFunc_extern Tryz.func278 (by kernel_rfl) (by kernel_rfl) (by kernel_rfl) (e := Extern.SlicesOverlaps.overlaps #[38, 38] #[4]) (by kernel_rfl),
      Lib.run_overlaps_apart w 38 4 3 Tryz.underlying38 1 Tryz.sizeOf3 ⟨vb, vo, none⟩ ⟨sb, off, none⟩ m vc lb cb hne vt st varr.size sarr.size shv shs (by omega) (by simp [World.frozen?, hv]) (by simp [World.frozen?, hv])]
    rfl
  have mixed : Tryz.prog.follows .mixedOrders = true := by kernel_rfl
  obtain ⟨arr1, q1, q2, q3, q4⟩ := run_copy_raw (P := Tryz.prog) (w := w.drew) (ts := #[38, 38]) (t := 38) (ty := 3) (el := 3) rfl Tryz.underlying38 (size := 1) (by kernel_rfl) (db := sb) (d0 := so + (i + m)) (dl := n + m - (i + m)) (dc := c - (i + m)) (sb := sb) (s0 := so + i) (sl := n + m - i) (sc := c - i) (darr := sarr) (sarr := sarr) (dt := st) (st := st) (dfz := sfz) (sfz := sfz)
    (show w.drew.heap[sb]? = _ from hs) hf (show w.drew.heap[sb]? = _ from hs) (k := n - i) (by simp only [Nat.min_def]; split <;> omega) (by omega) (by omega) (fun j u hj he => h1 (i + j) u (by omega) (by omega) (by rw [← he]; congr 1; omega))
  have hs1 : (setBlock w.drew sb (.cells arr1 st sfz)).heap[sb]? = some (.cells arr1 st sfz) := by letI : Lane := ⟨fun _ => 0, fun _ => 0, by decide, []⟩; exact setBlock_at (w := w.drew) hs
  have hv1 : (setBlock w.drew sb (.cells arr1 st sfz)).heap[vb]? = some (.cells varr vt (0, 0)) := by
    show (w.heap.setIfInBounds sb _)[vb]? = _
    rw [Array.getElem?_setIfInBounds_ne (Ne.symm hne)]; exact hv
  obtain ⟨arr2, p1, p2, p3, p4⟩ := run_copy_raw (P := Tryz.prog) (w := setBlock w.drew sb (.cells arr1 st sfz)) (ts := #[38, 38]) (t := 38) (ty := 3) (el := 3) rfl Tryz.underlying38 (size := 1) (by kernel_rfl) (db := sb) (d0 := so + i) (dl := n + m - i) (dc := c - i) (sb := vb) (s0 := vo) (sl := m) (sc := vc) (darr := arr1) (sarr := varr) (dt := st) (st := vt) (dfz := sfz) (sfz := (0, 0))
    hs1 (by rw [q2]; exact hf) hv1 (k := m) (by simp only [Nat.min_def]; split <;> omega) (by omega) (by omega) (fun j u hj he => h2 j u (by omega) he)
  go_enter Tryz.func234, Tryz.ntmps234
  go_wp2_with (simp only [hov])
  go_region_law_o (refine step_copy_runI rfl _ _ 38 38 rfl _ _ (by simp [Act.eval, Act.put]) (by simp [Act.eval, Act.put]) q1 ?_)
  go_wp2_with (at_builtin; refine wpList_copy_runI _ rfl _ _ 38 38 rfl _ _ rfl rfl p1 ?_)
  go_ret
  refine ⟨rfl, w.drew.drawn, arr2, ?_, p2.trans q2, fun j hj => ?_, fun j hj => ?_, fun j hj => ?_⟩
  · letI : Lane := ⟨fun _ => 0, fun _ => 0, by decide, []⟩
    rw [setBlock_twice]; rfl
  · rw [p3 j (by omega), q3 j (by omega)]
  · first | (rw [← p4 j (by omega)]; done) | (rw [← p4 j (by omega)]; congr 1; omega)
  · rw [p3 _ (by omega)]
    have := q4 j (by omega)
    rw [show so + (i + m) * 1 + j = so + (i + m) + j by omega, show so + i * 1 + j = so + i + j by omega]
    exact this
set_option maxHeartbeats 4000000 in
set_option maxRecDepth 100000 in
theorem grow (w : World) (sb so n c i vb vo m vc : Nat) {sarr varr : Array Value} {st vt : TypeId} {sfz vfz : Nat × Nat} (hs : w.heap[sb]? = some (.cells sarr st sfz)) (hsz : so + n * 1 ≤ sarr.size)
    (hv : w.heap[vb]? = some (.cells varr vt vfz)) (hvz : vo + m * 1 ≤ varr.size) (hi : i < n) (hm : 0 < m) (hb : n + m ≤ 65536) (hnc : n ≤ c) (hroom : c < n + m)
    (h1 : ∀ (j : Nat) u, i * 1 ≤ j → j < n * 1 → sarr[so + j]? = some u → OneV u) (h2 : ∀ (j : Nat) u, j < m * 1 → varr[vo + j]? = some u → OneV u) :
    Calls Tryz.prog 234 #[.slice (some ⟨sb, so, none⟩) n c, .int .i64 i, .slice (some ⟨vb, vo, none⟩) m vc] w fun e w' =>
      ∃ G arr' k, e = .returned (.slice (some ⟨w.heap.size, 0, none⟩) (n + m) G) ∧ n + m ≤ G ∧ w' = { w.alloc (.cells arr' 3) with drawn := k } ∧ G * 1 ≤ arr'.size ∧
        (∀ j, j < i * 1 → arr'[j]? = sarr[so + j]?) ∧ (∀ j, j < m * 1 → arr'[i * 1 + j]? = varr[vo + j]?) ∧ (∀ j, j < (n - i) * 1 → arr'[(i + m) * 1 + j]? = sarr[so + i * 1 + j]?) := by
  letI : Lane := ⟨fun _ => 0, fun _ => 0, by decide, []⟩
  obtain ⟨i0, hi0⟩ : ∃ i0, Tryz.prog.info? 3 = some i0 := Option.isSome_iff_exists.1 (by kernel_rfl)
  have hi1 : (Tryz.prog.info? 3).map (fun x => (x.size, decide (x.bytes ≤ 65536))) = some (1, true) := by kernel_rfl
  obtain ⟨hzs, hzb⟩ : i0.size = 1 ∧ i0.bytes ≤ 65536 := by rw [hi0] at hi1; simpa using hi1
  obtain ⟨z, hz0, hzz⟩ : ∃ z, i0.zero = some z ∧ z.cells.size = 1 := by
    have : ((Tryz.prog.info? 3).bind (·.zero)).map (fun z => z.cells.size) = some 1 := by kernel_rfl
    rw [hi0] at this
    cases hq : i0.zero with
    | none => rw [Option.bind_some, hq] at this; cases this
    | some z => rw [Option.bind_some, hq] at this; exact ⟨z, rfl, by simpa using this⟩
  obtain ⟨old, u1, u2, u3⟩ := loadCells_raw (P := Tryz.prog) (w := w.drew) (off := so) (show w.drew.heap[sb]? = _ from hs) (i * 1) 0 #[] (by omega)
  have hold : (Builtin.firstCells i0.size i (.slice (some ⟨sb, so, none⟩) i c)).run Tryz.prog w.drew = .ok old.toArray w.drew := by rw [hzs]; simpa [Builtin.firstCells, loadCells] using u1
  have hkk : (n : Int) + (m : Int) - (i : Int) = ((n + m - i : Nat) : Int) := by omega
  have hik : i + (n + m - i) = n + m := by omega
  have hrz0 := Lib.run_append_grow_zeros w 38 3 38 3 i0 z .i64 .i64 Tryz.underlying38 Tryz.underlying3 hi0 hz0 (some ⟨sb, so, none⟩) i c old hold (n + m - i) (by omega) (by omega) (by omega) (by omega)
    (Nat.le_trans (Nat.mul_le_mul (show n + m - i ≤ 65536 by omega) hzb) (by decide)) (by rw [hik]; exact growslice_fits (by omega) (Nat.le_trans (Nat.mul_le_mul hb hzb) (by decide)))
  rw [hik] at hrz0
  obtain ⟨G, hG⟩ : ∃ G, G = grownCap w (n + m) c 3 := ⟨_, rfl⟩
  obtain ⟨ROW, hROW⟩ : ∃ ROW : Array Value, ROW = old.toArray ++ Builtin.zeroCells z.cells (n + m - i) ++ Builtin.zeroCells z.cells (G - (n + m)) := ⟨_, rfl⟩
  rw [← hG, ← hROW] at hrz0
  have hrz : (Builtin.append_ #[38, 3] 38 #[.slice (some ⟨sb, so, none⟩) i c, .int .i64 ((n : Int) + (m : Int) - (i : Int))]).run Tryz.prog w = .ok (.slice (some ⟨w.heap.size, 0, none⟩) (n + m) G) (w.drew.alloc (.cells ROW 3)) := by rw [hkk]; exact hrz0
  have hGn : n + m ≤ G := by rw [hG]; exact grownCap_ge w _ _ _
  have hRs : ROW.size = G * 1 := by
    rw [hROW]
    simp only [Array.size_append, List.size_toArray, u2, Builtin.zeroCells, Array.size_map, Array.size_range, hzz]
    omega
  have hRo : ∀ j, j < i * 1 → ROW[j]? = sarr[so + j]? := fun j hj => by
    rw [hROW, Array.append_assoc, Array.getElem?_append_left (by simp only [List.size_toArray, u2]; omega), List.getElem?_toArray, u3 j hj, Nat.add_zero]
  have hsb : sb < w.heap.size := lt_of_heap hs
  have hvb : vb < w.heap.size := lt_of_heap hv
  have hr0 : (w.alloc (.cells ROW 3)).drew.heap[w.heap.size]? = some (.cells ROW 3 (0, 0)) := alloc_new w _
  have hv0 : (w.alloc (.cells ROW 3)).drew.heap[vb]? = some (.cells varr vt vfz) := (alloc_get w _ vb hvb).trans hv
  obtain ⟨arr1, q1, q2, q3, q4⟩ := run_copy_raw (P := Tryz.prog) (w := (w.alloc (.cells ROW 3)).drew) (ts := #[38, 38]) (t := 38) (ty := 3) (el := 3) rfl Tryz.underlying38 (size := 1) (by kernel_rfl) (db := w.heap.size) (d0 := i) (dl := n + m - i) (dc := G - i) (sb := vb) (s0 := vo) (sl := m) (sc := vc) (darr := ROW) (sarr := varr) (dt := 3) (st := vt) (dfz := (0, 0)) (sfz := vfz)
    hr0 (fz00 _) hv0 (k := m) (by simp only [Nat.min_def]; split <;> omega) (by omega) (by omega) (fun j u hj he => h2 j u (by omega) he)
  have hr1 : (setBlock (w.alloc (.cells ROW 3)).drew w.heap.size (.cells arr1 3 (0, 0))).drew.heap[w.heap.size]? = some (.cells arr1 3 (0, 0)) := setBlock_at (w := (w.alloc (.cells ROW 3)).drew) hr0
  have hs1 : (setBlock (w.alloc (.cells ROW 3)).drew w.heap.size (.cells arr1 3 (0, 0))).drew.heap[sb]? = some (.cells sarr st sfz) := by
    show ((w.alloc (.cells ROW 3)).drew.heap.setIfInBounds w.heap.size _)[sb]? = _
    rw [Array.getElem?_setIfInBounds_ne (by omega)]; exact (alloc_get w _ sb hsb).trans hs
  obtain ⟨arr2, p1, p2, p3, p4⟩ := run_copy_raw (P := Tryz.prog) (w := (setBlock (w.alloc (.cells ROW 3)).drew w.heap.size (.cells arr1 3 (0, 0))).drew) (ts := #[38, 38]) (t := 38) (ty := 3) (el := 3) rfl Tryz.underlying38 (size := 1) (by kernel_rfl) (db := w.heap.size) (d0 := (i + m)) (dl := n + m - (i + m)) (dc := G - (i + m)) (sb := sb) (s0 := so + i) (sl := n - i) (sc := c - i) (darr := arr1) (sarr := sarr) (dt := 3) (st := st) (dfz := (0, 0)) (sfz := sfz)
    hr1 (fz00 _) hs1 (k := n - i) (by simp only [Nat.min_def]; split <;> omega) (by omega) (by omega) (fun j u hj he => h1 (i + j) u (by omega) (by omega) (by rw [← he]; congr 1; omega))
  have hz1 : ¬ ((m : Int) = 0) := by omega
  have hz2 : ¬ ((i : Int) = (n : Int)) := by omega
  have hz3 : (c : Int) < (n : Int) + (m : Int) := by omega
  have hw1 : IntKind.i64.wrap ((i : Int) + (m : Int)) = (i : Int) + (m : Int) := by rw [IntKind.wrap_i64]; omega
  have hw2 : IntKind.i64.wrap ((n : Int) + (m : Int)) = (n : Int) + (m : Int) := by rw [IntKind.wrap_i64]; omega
  have hw3 : IntKind.i64.wrap ((n : Int) + (m : Int) - (i : Int)) = (n : Int) + (m : Int) - (i : Int) := by rw [IntKind.wrap_i64]; omega
  have hb1 : (0 : Int) ≤ (i : Int) + (m : Int) := by omega
  have hin : i ≤ n := by omega
  have htn : ((i : Int) + (m : Int)).toNat = i + m := by omega
  have hb3 : (i : Int) ≤ (n : Int) := by omega
  have hGi : ¬ (G = i) := by omega
  have hGim : ¬ (G = i + m) := by omega
  have hci : ¬ (c = i) := by omega
  have mixed : Tryz.prog.follows .mixedOrders = true := by kernel_rfl
  clear hkk hold hROW hG hrz0 hi1
  go_enter Tryz.func234, Tryz.ntmps234
  go_wp2_with (first
    | (at_builtin; refine Lib.wpList_append_run _ rfl _ _ _ _ rfl _ _ rfl rfl _ _ hrz ?_)
    | (at_builtin; refine wpList_copy_runI _ rfl _ _ 38 38 rfl _ _ rfl rfl q1 ?_))
  go_region_law_o (refine step_copy_runI rfl _ _ 38 38 rfl (.slice (some ⟨w.heap.size, i + m, none⟩) (n + m - (i + m)) (G - (i + m))) (.slice (some ⟨sb, so + i, none⟩) (n - i) (c - i)) (by simp [Act.eval, Act.put]) (by simp [Act.eval, Act.put]) p1 ?_)
  go_wp2
  go_ret
  refine ⟨G, arr2, w.drew.drew.drawn, rfl, hGn, ?_, by omega, fun j hj => ?_, fun j hj => ?_, fun j hj => ?_⟩
  · show World.mk _ _ _ _ _ = World.mk _ _ _ _ _
    congr 1
    show ((w.heap.push (.cells ROW 3)).setIfInBounds w.heap.size _).setIfInBounds w.heap.size _ = w.heap.push _
    apply Array.ext_getElem?
    intro k
    by_cases e : k = w.heap.size
    · subst e
      rw [Array.getElem?_setIfInBounds_self, if_pos (by simp), Array.getElem?_push_size]
    · rw [Array.getElem?_setIfInBounds_ne (Ne.symm e), Array.getElem?_setIfInBounds_ne (Ne.symm e), Array.getElem?_push, Array.getElem?_push, if_neg e, if_neg e]
  · rw [p3 j (by omega), q3 j (by omega), hRo j hj]
  · first | (rw [p3 _ (by omega), ← q4 j (by omega)]; done) | (rw [p3 _ (by omega), ← q4 j (by omega)]; congr 1; omega)
  · have := p4 j (by omega)
    rw [show (i + m) * 1 + j = (i + m) + j by omega, show so + i * 1 + j = so + i + j by omega]
    exact this
end Go.Proofs.YtjnpggeibjbfmaaGreatDoor.Insw234
