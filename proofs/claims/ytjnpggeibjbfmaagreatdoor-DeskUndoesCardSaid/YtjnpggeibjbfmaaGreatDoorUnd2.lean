/- DeskUndoes: the law's walk, by the machine: whatever the numbers, it returns true and nothing that was there has turned. -/
import Derived.Test.YtjnpggeibjbfmaaGreatDoorUnde0
import Derived.Test.YtjnpggeibjbfmaaGreatDoorUnde1
import Derived.Test.YtjnpggeibjbfmaaGreatDoorUnde2
import Derived.Test.YtjnpggeibjbfmaaGreatDoorUnde3
import Derived.Test.YtjnpggeibjbfmaaGreatDoorUndm
import Derived.Test.YtjnpggeibjbfmaaGreatDoorUndr0
import Derived.Test.YtjnpggeibjbfmaaGreatDoorUndr1
import Derived.Test.YtjnpggeibjbfmaaGreatDoorUndr2
import Derived.Test.YtjnpggeibjbfmaaGreatDoorUndr3
import Derived.Test.YtjnpggeibjbfmaaGreatDoorUndx
namespace Go.Proofs.YtjnpggeibjbfmaaGreatDoor.UndF
open Go.Vai
set_option linter.unusedVariables false
set_option maxRecDepth 1000000
theorem plainP : Plain P := by
  refine ⟨fun f fn hf => ?_, by kernel_rfl⟩
  have h : (P.funcs.toList.all fun fn => !(fn.name == "runtime.NumGoroutine")) = true := by kernel_rfl
  have := List.all_eq_true.1 h fn (by simpa using Array.mem_of_getElem? hf)
  simpa using this
theorem bodyE : Tryz.f5.body = some lb := by kernel_rfl
theorem nt : Tryz.f5.ntmps = 110 := by kernel_rfl
theorem res : Tryz.f5.results.toList = [.tmp 2] := by kernel_rfl
theorem cl0_ok [Lane] {base : Nat} : CallOk P base glN cl0 := fun f args h r e => call_ok plainP noHook_ok 100000 80 f args h r (by rw [← callF_eq]; exact e)
theorem es_ok : ∀ en ∈ es, entB cl0 21 en = true := (List.forall_mem_cons.2 ⟨e00, (List.forall_mem_cons.2 ⟨e01, (List.forall_mem_cons.2 ⟨e02, (List.forall_mem_cons.2 ⟨e03, (List.forall_mem_cons.2 ⟨e10, (List.forall_mem_cons.2 ⟨e11, (List.forall_mem_cons.2 ⟨e12, (List.forall_mem_cons.2 ⟨e13, (List.forall_mem_cons.2 ⟨e20, (List.forall_mem_cons.2 ⟨e21, (List.forall_mem_cons.2 ⟨e22, (List.forall_mem_cons.2 ⟨e23, (List.forall_mem_cons.2 ⟨e30, (List.forall_mem_cons.2 ⟨e31, (List.forall_mem_cons.2 ⟨e32, (List.forall_mem_cons.2 ⟨e33, (List.forall_mem_cons.2 ⟨e04, (List.forall_mem_cons.2 ⟨e44, (List.forall_mem_cons.2 ⟨e40, (List.forall_mem_cons.2 ⟨e41, (List.forall_mem_cons.2 ⟨e42, (List.forall_mem_cons.2 ⟨e43, (fun _ h => by cases h)⟩)⟩)⟩)⟩)⟩)⟩)⟩)⟩)⟩)⟩)⟩)⟩)⟩)⟩)⟩)⟩)⟩)⟩)⟩)⟩)⟩)⟩)
theorem hk_ok [Lane] {base i : Nat} {x : AV} (hx : ∀ φ w, VR φ w x (.int .i64 (winm 4 (Lane.arg i)))) : CallOk P base glN (cl i x) := by
  have hkok : CallOk P base glN (hk i x) := by
    refine hk2_ok (tabM_ok cl0_ok es_ok (List.all_eq_true.1 ms_ok)) (winF_ok (fun us w => enters plainP Tryz.func6 (by kernel_rfl) us w) (fun m a w h0 h1 => withinm_calls m a w h0 h1) ?_)
    intro p hp
    have hp' : p = (i, 4, x) := by simpa using hp
    subst hp'
    exact ⟨(show 0 < 4 by decide), (show 4 ≤ 1000 by decide), hx⟩
  exact fun f args h r e => call_ok plainP hkok 100000 80 f args h r (by rw [← callF_eq]; exact e)
theorem clE_ok [Lane] {base : Nat} : CallOk P base glN clE := cl0_ok
/-! which values are changes -/
def chgs (v : Nat → Nat) : Nat → List Nat
  | 0 => []
  | i + 1 => if v i = (chgs v i).getLastD 0 then chgs v i else chgs v i ++ [v i]
theorem chgs_len (v : Nat → Nat) : ∀ i, (chgs v i).length ≤ i
  | 0 => Nat.le_refl _
  | i + 1 => by
    have := chgs_len v i
    unfold chgs
    split
    · omega
    · rw [List.length_append, List.length_singleton]; omega
theorem chgs_pre (v : Nat → Nat) (i : Nat) : ∀ d, ∃ t, chgs v (i + d) = chgs v i ++ t
  | 0 => ⟨[], by simp⟩
  | d + 1 => by
    obtain ⟨t, ht⟩ := chgs_pre v i d
    show ∃ t, (if v (i + d) = (chgs v (i + d)).getLastD 0 then chgs v (i + d) else chgs v (i + d) ++ [v (i + d)]) = chgs v i ++ t
    split
    · exact ⟨t, ht⟩
    · exact ⟨t ++ [v (i + d)], by rw [ht, List.append_assoc]⟩
theorem chgs_all {v : Nat → Nat} (h : ∀ i, v i < 4) : ∀ i, ∀ x ∈ chgs v i, x < 4
  | 0, x, hx => by cases hx
  | i + 1, x, hx => by
    unfold chgs at hx
    split at hx
    · exact chgs_all h i x hx
    · rcases List.mem_append.1 hx with q | q
      · exact chgs_all h i x q
      · simp at q; subst q; exact h i
theorem last_get {l : List Nat} (h : l ≠ []) : l.getLastD 0 = l.getD (l.length - 1) 0 := by
  rw [List.getLastD_eq_getLast?, List.getLast?_eq_getElem?, List.getD_eq_getElem?_getD]
/-- neighbours differ, the first is not 0 -/
theorem chgs_ne (v : Nat → Nat) : ∀ i k, k < (chgs v i).length → (chgs v i).getD k 0 ≠ (if k = 0 then 0 else (chgs v i).getD (k - 1) 0)
  | 0, k, h => by simp [chgs] at h
  | i + 1, k, h => by
    unfold chgs at h ⊢
    split at h
    · rename_i hv
      rw [if_pos hv]
      exact chgs_ne v i k h
    · rename_i hv
      rw [if_neg hv]
      rw [List.length_append, List.length_singleton] at h
      by_cases hk : k < (chgs v i).length
      · have := chgs_ne v i k hk
        rw [List.getD_eq_getElem?_getD, List.getElem?_append_left hk, ← List.getD_eq_getElem?_getD]
        by_cases h0 : k = 0
        · rw [if_pos h0] at this ⊢; exact this
        · rw [if_neg h0] at this ⊢
          rw [List.getD_eq_getElem?_getD (l := chgs v i ++ [v i]), List.getElem?_append_left (by omega), ← List.getD_eq_getElem?_getD]
          exact this
      · have hk' : k = (chgs v i).length := by omega
        rw [List.getD_eq_getElem?_getD, List.getElem?_append_right (by omega), hk', Nat.sub_self]
        show v i ≠ _
        by_cases h0 : (chgs v i).length = 0
        · rw [if_pos h0]
          have : chgs v i = [] := List.length_eq_zero_iff.1 h0
          rw [this] at hv
          exact hv
        · rw [if_neg h0]
          rw [List.getD_eq_getElem?_getD (l := chgs v i ++ [v i]), List.getElem?_append_left (by omega), ← List.getD_eq_getElem?_getD]
          rw [last_get (fun e => h0 (by rw [e]; rfl))] at hv
          exact hv
/-- .. and then two values in turn -/
def tail2 (b t : Nat) : Nat := if t % 2 = 0 then (if b = 0 then 1 else 0) else b
def lane (l : List Nat) (k : Nat) : Nat := if k < l.length then l.getD k 0 else tail2 (l.getLastD 0) (k - l.length)
theorem tail2_lt {b t : Nat} (h : b < 4) : tail2 b t < 4 := by
  unfold tail2
  split
  · split <;> omega
  · exact h
theorem tail2_ne (b t : Nat) : tail2 b t ≠ tail2 b (t + 1) := by
  unfold tail2
  have : t % 2 = 0 ∨ t % 2 = 1 := by omega
  rcases this with h | h
  · rw [if_pos h, if_neg (show ¬ ((t + 1) % 2 = 0) by omega)]
    split <;> omega
  · rw [if_neg (show ¬ (t % 2 = 0) by omega), if_pos (show (t + 1) % 2 = 0 by omega)]
    split <;> omega
theorem lane_lt {l : List Nat} (h : ∀ x ∈ l, x < 4) (k : Nat) : lane l k < 4 := by
  have hd : ∀ j, l.getD j 0 < 4 := by
    intro j
    rw [List.getD_eq_getElem?_getD]
    cases q : l[j]? with
    | none => decide
    | some x => exact h x (List.mem_of_getElem? q)
  unfold lane
  split
  · exact hd k
  · refine tail2_lt ?_
    by_cases hl : l = []
    · subst hl; decide
    · rw [last_get hl]; exact hd _
theorem lane_ne (v : Nat → Nat) (n k : Nat) : lane (chgs v n) k ≠ lane (chgs v n) (k + 1) := by
  unfold lane
  by_cases h1 : k + 1 < (chgs v n).length
  · rw [if_pos (by omega), if_pos h1]
    have := chgs_ne v n (k + 1) h1
    rw [if_neg (by omega), Nat.add_sub_cancel] at this
    exact Ne.symm this
  · by_cases h2 : k < (chgs v n).length
    · rw [if_pos h2, if_neg h1, show k + 1 - (chgs v n).length = 0 by omega]
      have hne : chgs v n ≠ [] := fun e => by rw [e] at h2; simp at h2
      rw [last_get hne, show (chgs v n).length - 1 = k by omega]
      unfold tail2
      rw [if_pos rfl]
      split <;> omega
    · rw [if_neg h2, if_neg h1, show k + 1 - (chgs v n).length = k - (chgs v n).length + 1 by omega]
      exact tail2_ne _ _
theorem nuM_ok [Lane] {m : Nat} (hm : m ≤ 12) {c : Nat} (h0 : m = 0 → c = 0) (h1 : m = 1 → c ≠ 0) (h4 : c < 4) (hl : m ≠ 0 → Lane.l (m + 3) = c) (φ : Emb) (w : World) : VR φ w (nuM m) (.int .i64 (c : Int)) := by
  have nuk : ∀ (k n : Nat) (x : AV), m = k → n = k + 3 → k ≠ 0 → nuM k = x → (∃ l, x = .vec l ∧ l.length = n ∧ ∀ j, j < 4 → (k = 1 → j ≠ 0) → l[j]? = some (.int .i64 (.ofNat j))) → VR φ w (nuM m) (.int .i64 (c : Int)) := by
    intro k n x hk hn hk0 hx hl2
    subst hk
    obtain ⟨l, rfl, hlen, hat⟩ := hl2
    rw [hx]
    refine .vec l (.int .i64 (.ofNat c)) _ ?_ rfl (.int _ _)
    rw [hlen, hn, hl hk0]
    exact hat c h4 h1
  have hcs : m = 0 ∨ m = 1 ∨ m = 2 ∨ m = 3 ∨ m = 4 ∨ m = 5 ∨ m = 6 ∨ m = 7 ∨ m = 8 ∨ m = 9 ∨ m = 10 ∨ m = 11 ∨ m = 12 := by omega
  rcases hcs with hcs | hcs | hcs | hcs | hcs | hcs | hcs | hcs | hcs | hcs | hcs | hcs | hcs
  · rw [hcs, h0 hcs]; exact .int _ _
  · exact nuk 1 4 nuv1 hcs rfl (by decide) rfl ⟨_, rfl, rfl, fun j hj hj1 => by
      have hj4 : j = 0 ∨ j = 1 ∨ j = 2 ∨ j = 3 := by omega
      rcases hj4 with rfl | rfl | rfl | rfl <;> first | rfl | exact absurd rfl (hj1 rfl)⟩
  · exact nuk 2 5 nuv2 hcs rfl (by decide) rfl ⟨_, rfl, rfl, fun j hj hj1 => by
      have hj4 : j = 0 ∨ j = 1 ∨ j = 2 ∨ j = 3 := by omega
      rcases hj4 with rfl | rfl | rfl | rfl <;> first | rfl | exact absurd rfl (hj1 rfl)⟩
  · exact nuk 3 6 nuv3 hcs rfl (by decide) rfl ⟨_, rfl, rfl, fun j hj hj1 => by
      have hj4 : j = 0 ∨ j = 1 ∨ j = 2 ∨ j = 3 := by omega
      rcases hj4 with rfl | rfl | rfl | rfl <;> first | rfl | exact absurd rfl (hj1 rfl)⟩
  · exact nuk 4 7 nuv4 hcs rfl (by decide) rfl ⟨_, rfl, rfl, fun j hj hj1 => by
      have hj4 : j = 0 ∨ j = 1 ∨ j = 2 ∨ j = 3 := by omega
      rcases hj4 with rfl | rfl | rfl | rfl <;> first | rfl | exact absurd rfl (hj1 rfl)⟩
  · exact nuk 5 8 nuv5 hcs rfl (by decide) rfl ⟨_, rfl, rfl, fun j hj hj1 => by
      have hj4 : j = 0 ∨ j = 1 ∨ j = 2 ∨ j = 3 := by omega
      rcases hj4 with rfl | rfl | rfl | rfl <;> first | rfl | exact absurd rfl (hj1 rfl)⟩
  · exact nuk 6 9 nuv6 hcs rfl (by decide) rfl ⟨_, rfl, rfl, fun j hj hj1 => by
      have hj4 : j = 0 ∨ j = 1 ∨ j = 2 ∨ j = 3 := by omega
      rcases hj4 with rfl | rfl | rfl | rfl <;> first | rfl | exact absurd rfl (hj1 rfl)⟩
  · exact nuk 7 10 nuv7 hcs rfl (by decide) rfl ⟨_, rfl, rfl, fun j hj hj1 => by
      have hj4 : j = 0 ∨ j = 1 ∨ j = 2 ∨ j = 3 := by omega
      rcases hj4 with rfl | rfl | rfl | rfl <;> first | rfl | exact absurd rfl (hj1 rfl)⟩
  · exact nuk 8 11 nuv8 hcs rfl (by decide) rfl ⟨_, rfl, rfl, fun j hj hj1 => by
      have hj4 : j = 0 ∨ j = 1 ∨ j = 2 ∨ j = 3 := by omega
      rcases hj4 with rfl | rfl | rfl | rfl <;> first | rfl | exact absurd rfl (hj1 rfl)⟩
  · exact nuk 9 12 nuv9 hcs rfl (by decide) rfl ⟨_, rfl, rfl, fun j hj hj1 => by
      have hj4 : j = 0 ∨ j = 1 ∨ j = 2 ∨ j = 3 := by omega
      rcases hj4 with rfl | rfl | rfl | rfl <;> first | rfl | exact absurd rfl (hj1 rfl)⟩
  · exact nuk 10 13 nuv10 hcs rfl (by decide) rfl ⟨_, rfl, rfl, fun j hj hj1 => by
      have hj4 : j = 0 ∨ j = 1 ∨ j = 2 ∨ j = 3 := by omega
      rcases hj4 with rfl | rfl | rfl | rfl <;> first | rfl | exact absurd rfl (hj1 rfl)⟩
  · exact nuk 11 14 nuv11 hcs rfl (by decide) rfl ⟨_, rfl, rfl, fun j hj hj1 => by
      have hj4 : j = 0 ∨ j = 1 ∨ j = 2 ∨ j = 3 := by omega
      rcases hj4 with rfl | rfl | rfl | rfl <;> first | rfl | exact absurd rfl (hj1 rfl)⟩
  · exact nuk 12 15 nuv12 hcs rfl (by decide) rfl ⟨_, rfl, rfl, fun j hj hj1 => by
      have hj4 : j = 0 ∨ j = 1 ∨ j = 2 ∨ j = 3 := by omega
      rcases hj4 with rfl | rfl | rfl | rfl <;> first | rfl | exact absurd rfl (hj1 rfl)⟩
theorem all12 {p : Nat → Nat → Bool} {m i : Nat} {n : Nat} (h : ((List.range n).all fun i => Nat.blt i m || p m i) = true) (hi : i < n) (hmi : m ≤ i) : p m i = true := by
  have := List.all_eq_true.1 h i (List.mem_range.2 hi)
  have hb : Nat.blt i m = false := by
    cases q : Nat.blt i m with
    | false => rfl
    | true => have := Nat.le_of_ble_eq_true q; omega
  rw [hb, Bool.false_or] at this
  exact this
theorem same_ok {m i : Nat} (hi : i < 12) (hmi : m ≤ i) : sameB m i = true := by
  have hcs : m = 0 ∨ m = 1 ∨ m = 2 ∨ m = 3 ∨ m = 4 ∨ m = 5 ∨ m = 6 ∨ m = 7 ∨ m = 8 ∨ m = 9 ∨ m = 10 ∨ m = 11 := by omega
  rcases hcs with rfl | rfl | rfl | rfl | rfl | rfl | rfl | rfl | rfl | rfl | rfl | rfl
  · exact all12 same0 hi hmi
  · exact all12 same1 hi hmi
  · exact all12 same2 hi hmi
  · exact all12 same3 hi hmi
  · exact all12 same4 hi hmi
  · exact all12 same5 hi hmi
  · exact all12 same6 hi hmi
  · exact all12 same7 hi hmi
  · exact all12 same8 hi hmi
  · exact all12 same9 hi hmi
  · exact all12 same10 hi hmi
  · exact all12 same11 hi hmi
theorem chg_ok {m i : Nat} (hi : i < 12) (hmi : m ≤ i) : chgB m i = true := by
  have hcs : m = 0 ∨ m = 1 ∨ m = 2 ∨ m = 3 ∨ m = 4 ∨ m = 5 ∨ m = 6 ∨ m = 7 ∨ m = 8 ∨ m = 9 ∨ m = 10 ∨ m = 11 := by omega
  rcases hcs with rfl | rfl | rfl | rfl | rfl | rfl | rfl | rfl | rfl | rfl | rfl | rfl
  · exact all12 chg0 hi hmi
  · exact all12 chg1 hi hmi
  · exact all12 chg2 hi hmi
  · exact all12 chg3 hi hmi
  · exact all12 chg4 hi hmi
  · exact all12 chg5 hi hmi
  · exact all12 chg6 hi hmi
  · exact all12 chg7 hi hmi
  · exact all12 chg8 hi hmi
  · exact all12 chg9 hi hmi
  · exact all12 chg10 hi hmi
  · exact all12 chg11 hi hmi
theorem law_calls (a1 : Option Addr) (len cap : Nat) (zs : List Int) (w : World)
    (hrow : (a1 = none ∧ len = 0 ∧ cap = 0) ∨ ∃ x, a1 = some x ∧ len ≤ cap ∧ ∀ i, i < cap → w.cell? (x.add i) = some (.int .i64 (zs.getD i 0))) :
    Calls P 5 #[.slice a1 len cap] w fun e w' => e = .returned (.bool true) ∧
    (w'.os = w.os ∧ w'.tape = w.tape ∧ w'.output = w.output ∧ w.heap.size ≤ w'.heap.size ∧ ∀ k, k < w.heap.size → w'.heap[k]? = w.heap[k]?) := by
  have hmix : P.follows .mixedOrders = true := plainP.mixed
  have hv4 : ∀ i, (winm 4 (zs.getD i 0)).toNat < 4 := by
    intro i
    have := winm_range 4 (by decide) (zs.getD i 0)
    omega
  generalize hv : (fun i => (winm 4 (zs.getD i 0)).toNat) = v at *
  have hvi : ∀ i, v i = (winm 4 (zs.getD i 0)).toNat := fun i => by rw [← hv]
  have hv4 : ∀ i, v i < 4 := fun i => by rw [hvi]; exact hv4 i
  have hvw : ∀ i, winm 4 (zs.getD i 0) = (v i : Int) := by
    intro i
    have := winm_range 4 (by decide) (zs.getD i 0)
    rw [hvi]
    omega
  generalize hK : min len 12 = K
  letI : Lane := ⟨fun d => lane (chgs v K) (d - 4), fun i => match i with | 13 => len | i => zs.getD i 0, (fun d hd => by
      have := lane_lt (chgs_all hv4 K) (d - 4)
      have hd' : 4 ≤ d := (List.all_eq_true.1 (show (DIMS.all fun d => Nat.ble 4 d) = true by decide) d hd |> Nat.le_of_ble_eq_true)
      omega), (fun d => lane_lt (chgs_all hv4 K) (d - 4)), (fun p hp => by
      have hp' := List.all_eq_true.1 (show (DIFF.all fun p => Nat.ble 4 p.1 && Nat.beq p.2 (p.1 + 1)) = true by decide) p hp
      simp only [Bool.and_eq_true] at hp'
      have h1 := Nat.le_of_ble_eq_true hp'.1
      have h2 := Nat.eq_of_beq_eq_true hp'.2
      rw [h2, show p.1 + 1 - 4 = p.1 - 4 + 1 by omega]
      exact lane_ne v K _), [], .slice a1 len cap⟩
  have hG : ∀ φ w, GlobOk glN φ w := fun φ w => ⟨(fun _ _ z => by cases z), fun p hp => by cases hp⟩
  rcases hrow with ⟨rfl, rfl, rfl⟩ | ⟨x, rfl, hlc, hcell⟩
  · exact law_nums (cb := 0) (co := 0) clE_ok hmix Tryz.func5 bodyE nt res (n := 0) (fun z => absurd rfl z) (hG _ _) (.cons .nilSlice .nil) (by show 1 ≤ 110; decide) nil0
  by_cases hz : len = 0
  · exact law_nums (cb := 0) (co := 0) clE_ok hmix Tryz.func5 bodyE nt res (n := 0) (fun z => absurd rfl z) (hG _ _) (.cons (.lslice _ x 0 13 true len cap (fun z => by cases z) (fun _ => hz) (.inl rfl) rfl) .nil) (by show 1 ≤ 110; decide) emp0
  have hplain : x = ⟨x.block, x.off, none⟩ ∧ ∃ arr ty fz, w.heap[x.block]? = some (.cells arr ty fz) ∧ ∀ i, i < cap → arr[x.off + i]? = some (.int .i64 (zs.getD i 0)) := by
    have h0 := hcell 0 (by omega)
    obtain ⟨b, o, nn⟩ := x
    cases nn with
    | some q =>
      exfalso
      simp [World.cell?, Addr.add] at h0
      split at h0 <;> cases h0
    | none =>
    refine ⟨rfl, ?_⟩
    cases hb : w.heap[b]? with
    | none => simp [World.cell?, add_plain, hb] at h0
    | some ob =>
      cases ob with
      | cells arr ty fz =>
        refine ⟨arr, ty, fz, rfl, fun i hi => ?_⟩
        have := hcell i hi
        simpa [World.cell?, add_plain, hb] using this
      | _ => simp [World.cell?, add_plain, hb] at h0
  obtain ⟨hx, arr, ty, fz, ha, hat⟩ := hplain
  have hnums : NumsAt w ⟨x.block, x.off, 0, 12⟩ len cap x := by
    refine ⟨rfl, hx, rfl, arr, ty, fz, ha, fun i hi h12 => ?_⟩
    rw [hat i hi]
    have : i = 0 ∨ i = 1 ∨ i = 2 ∨ i = 3 ∨ i = 4 ∨ i = 5 ∨ i = 6 ∨ i = 7 ∨ i = 8 ∨ i = 9 ∨ i = 10 ∨ i = 11 := by omega
    rcases this with rfl|rfl|rfl|rfl|rfl|rfl|rfl|rfl|rfl|rfl|rfl|rfl <;> rfl
  have hLR : ∀ (φ : Emb), φ 0 0 = some ⟨x.block, x.off, 0, 12⟩ → LR φ ⟨0, 0, 0, 12⟩ x := by
    intro φ h
    refine ⟨_, h, rfl, Nat.le_refl _, ?_⟩
    rw [hx]; simp
  have hargs : All2 (VR (fun b g => if b = 0 ∧ g = 0 then some (⟨x.block, x.off, 0, 12⟩ : CL) else none) w) [.lslice ⟨0, 0, 0, 12⟩ 0 13 false] (#[Value.slice (some x) len cap]).toList :=
    .cons (.lslice _ x 0 13 false len cap (fun _ => ⟨rfl, Nat.zero_le _⟩) (fun z => by cases z) (.inl rfl) rfl) .nil
  have hlane : ∀ i m, i ≤ K → m < (chgs v i).length → Lane.l (m + 4) = (chgs v i).getD m 0 := by
    intro i m hi hm
    show lane (chgs v K) (m + 4 - 4) = _
    obtain ⟨t, ht⟩ := chgs_pre v i (K - i)
    rw [show i + (K - i) = K by omega] at ht
    unfold lane
    rw [Nat.add_sub_cancel, ht, if_pos (by rw [List.length_append]; omega), List.getD_eq_getElem?_getD, List.getElem?_append_left hm, ← List.getD_eq_getElem?_getD]
  have hcur : ∀ i, i ≤ K → ∀ φ w, VR φ w (nuM (chgs v i).length) (.int .i64 ((chgs v i).getLastD 0 : Nat)) := by
    intro i hi φ w
    have hlen := chgs_len v i
    refine nuM_ok (by omega) (fun h => ?_) (fun h => ?_) ?_ (fun h => ?_) φ w
    · rw [List.length_eq_zero_iff.1 h]; rfl
    · have hne : chgs v i ≠ [] := fun e => by rw [e] at h; cases h
      have := chgs_ne v i 0 (by omega)
      rw [if_pos rfl] at this
      rw [last_get hne, h]; exact this
    · by_cases he : chgs v i = []
      · rw [he]; decide
      · rw [last_get he, List.getD_eq_getElem?_getD]
        cases q : (chgs v i)[(chgs v i).length - 1]? with
        | none => decide
        | some y => exact chgs_all hv4 i y (List.mem_of_getElem? q)
    · have hne : chgs v i ≠ [] := fun e => h (by rw [e]; rfl)
      rw [last_get hne, show (chgs v i).length + 3 = (chgs v i).length - 1 + 4 by omega]
      exact hlane i _ hi (by omega)
  have hround : ∀ j, j < K → RoundOk P 100000 110 body w ⟨x.block, x.off, 0, 12⟩ 0 cap (fun i => sAt i (chgs v i).length) j := by
    intro j hj
    have hj12 : j < 12 := by omega
    have hjl : j + 1 ≤ len := by omega
    have hml := chgs_len v j
    have hx : ∀ (φ : Emb) (w : World), φ 0 0 = some ⟨x.block, x.off, 0, 12⟩ → VR φ w (xs j) Lane.sl := fun φ w h => .lslice _ x (j + 1) 13 false len cap (fun _ => ⟨rfl, hjl⟩) (fun z => by cases z) (.inr (hLR φ h)) rfl
    have harg : Lane.arg j = zs.getD j 0 := by
      have : j = 0 ∨ j = 1 ∨ j = 2 ∨ j = 3 ∨ j = 4 ∨ j = 5 ∨ j = 6 ∨ j = 7 ∨ j = 8 ∨ j = 9 ∨ j = 10 ∨ j = 11 := by omega
      rcases this with rfl|rfl|rfl|rfl|rfl|rfl|rfl|rfl|rfl|rfl|rfl|rfl <;> rfl
    by_cases hc : v j = (chgs v j).getLastD 0
    · have hs : chgs v (j + 1) = chgs v j := by show (if _ then _ else _) = _; rw [if_pos hc]
      refine ⟨cl j (nuM (chgs v j).length), xs j, sgS (chgs v j).length, hk_ok (fun φ w => ?_), ?_, ⟨by omega, hj12⟩, hx⟩
      · rw [harg, hvw, hc]; exact hcur j (by omega) φ w
      · show roundZ _ _ _ _ _ _ (sAt j (chgs v j).length) _ _ _ (sAt (j + 1) (chgs v (j + 1)).length) = true
        rw [hs]
        exact same_ok hj12 hml
    · have hs : chgs v (j + 1) = chgs v j ++ [v j] := by show (if _ then _ else _) = _; rw [if_neg hc]
      have hsl : (chgs v (j + 1)).length = (chgs v j).length + 1 := by rw [hs, List.length_append]; rfl
      refine ⟨cl j (nuM ((chgs v j).length + 1)), xs j, sgC (chgs v j).length, hk_ok (fun φ w => ?_), ?_, ⟨by omega, hj12⟩, hx⟩
      · have := hcur (j + 1) (by omega) φ w
        rw [hsl, hs, List.getLastD_concat] at this
        rw [harg, hvw]; exact this
      · show roundZ _ _ _ _ _ _ (sAt j (chgs v j).length) _ _ _ (sAt (j + 1) (chgs v (j + 1)).length) = true
        rw [hsl]
        exact chg_ok hj12 hml
  have hmK : (chgs v K).length ≤ K := chgs_len v K
  have hend : endZ P clE 100000 110 rest 2 (xAt (chgs v K).length) = true := List.all_eq_true.1 ends _ (List.mem_range.2 (by omega))
  by_cases hb : len ≤ 12
  · have hKl : K = len := by omega
    have hexit : exitZ P clE 100000 110 body 0 0 (sAt K (chgs v K).length) (xe K) (sgS (chgs v K).length) (xAt (chgs v K).length) = true :=
      all12 (p := exB) (List.all_eq_true.1 exits _ (List.mem_range.2 (by omega))) (by omega) hmK
    exact law_steps hmix hG Tryz.func5 bodyE nt res shape (by decide) hnums rfl hargs (by show 1 ≤ 110; decide) (S := fun i => sAt i (chgs v i).length) (K := K) clE_ok start hround clE_ok
      (fun φ w h => .lslice _ x K 13 true len cap (fun z => by cases z) (fun _ => hKl.symm) (.inr (hLR φ h)) rfl) hexit clE_ok hend
  · have hKl : K = 12 := by omega
    have hexit : exitZ P clE 100000 110 body 0 0 (sAt K (chgs v K).length) xb (sgS (chgs v K).length) (xAt (chgs v K).length) = true := by
      have := List.all_eq_true.1 exitG (chgs v K).length (List.mem_range.2 (by omega))
      rw [hKl] at this ⊢
      exact this
    exact law_steps hmix hG Tryz.func5 bodyE nt res shape (by decide) hnums rfl hargs (by show 1 ≤ 110; decide) (S := fun i => sAt i (chgs v i).length) (K := K) clE_ok start hround clE_ok
      (fun φ w h => .lslice _ x 13 13 false len cap (fun _ => ⟨rfl, by omega⟩) (fun z => by cases z) (.inr (hLR φ h)) rfl) hexit clE_ok hend
end Go.Proofs.YtjnpggeibjbfmaaGreatDoor.UndF
