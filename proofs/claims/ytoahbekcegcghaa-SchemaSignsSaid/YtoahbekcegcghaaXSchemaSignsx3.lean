-- By a program of this session's own over the kit's printer (wip/xprint.py). Not trusted: Lean checks it.
import Derived.Test.YtoahbekcegcghaaXSchemaSignsx0
import Derived.Test.YtoahbekcegcghaaXSchemaSignsx1
import Derived.Test.YtoahbekcegcghaaXSchemaSignsx2
namespace Go.Proofs.Ytoahbekcegcghaa.XSchemaSigns
open Go.RowKit Go.Proofs.YtoahbekcegcghaaW.PrintWords Go.Proofs.YtoahbekcegcghaaW.PrintLast Go.Proofs.YtoahbekcegcghaaW.PrintMore
attribute [local go_sem] max2_int min2_int max_two min_two max_three min_three max_four min_four   -- for this text's walks alone
set_option linter.unusedVariables false
set_option linter.unusedSimpArgs false

/-! ### scholiumlaw08_SchemaSigns: function 6 -/
mutual
def scholiumlaw08_SchemaSigns.j0 : Nat → ByteArray → Bool → Option (Bool)
  | 0, _, _ => none
  | k + 1, x7, x8 => if x8 = true then (if (x7.size : Int) < 2 then (scholiumlaw08_SchemaSigns.j1 k x7 true) else (if 1 < (x7.size : Int) then (if (bt x7 1) = 111 then (scholiumlaw08_SchemaSigns.j1 k x7 false) else (scholiumlaw08_SchemaSigns.j1 k x7 ((bt x7 1) != 120))) else (none))) else (scholiumlaw08_SchemaSigns.j1 k x7 false)
def scholiumlaw08_SchemaSigns.j1 : Nat → ByteArray → Bool → Option (Bool)
  | 0, _, _ => none
  | k + 1, x7, x40 => if x40 = true then ((schema_Int.f x7).bind fun t158 => (if 1 + x7.size ≤ 9223372036854775807 then ((schema_Int.f ((⟨#[45]⟩ : ByteArray) ++ x7)).bind fun t159 => (if (t158 != t159) = true then (scholiumlaw08_SchemaSigns.j2 k x7 true) else ((schema_Int.f x7).bind fun t160 => ((schema_Int.f ((⟨#[43]⟩ : ByteArray) ++ x7)).bind fun t161 => (if (t160 != t161) = true then (scholiumlaw08_SchemaSigns.j2 k x7 true) else ((schema_Float.f k x7).bind fun t162 => ((schema_Float.f k ((⟨#[45]⟩ : ByteArray) ++ x7)).bind fun t163 => (if (t162 != t163) = true then (scholiumlaw08_SchemaSigns.j2 k x7 true) else (if 2 + x7.size ≤ 9223372036854775807 then ((schema_Int.f ((⟨#[45, 45]⟩ : ByteArray) ++ x7)).bind fun t164 => (if t164 = true then (scholiumlaw08_SchemaSigns.j2 k x7 true) else ((schema_Float.f k ((⟨#[43, 45]⟩ : ByteArray) ++ x7)).bind fun t165 => (scholiumlaw08_SchemaSigns.j2 k x7 t165)))) else (none)))))))))) else (none))) else (scholiumlaw08_SchemaSigns.j3 k x7)
def scholiumlaw08_SchemaSigns.j3 : Nat → ByteArray → Option (Bool)
  | 0, _ => none
  | k + 1, x7 => (schema_Null.f k x7).bind fun t168 => (if t168 = true then (if x7.toList = ([] : List UInt8) then (if x7.size + 1 ≤ 9223372036854775807 then ((schema_Bool.f k (x7 ++ (⟨#[32]⟩ : ByteArray))).bind fun t169 => (if t169 = true then (some false) else ((schema_Null.f k (x7 ++ (⟨#[32]⟩ : ByteArray))).bind fun t170 => (if t170 = true then (some false) else ((schema_Int.f (x7 ++ (⟨#[32]⟩ : ByteArray))).bind fun t171 => (if t171 = true then (some false) else (if 1 + x7.size ≤ 9223372036854775807 then ((schema_Float.f k ((⟨#[32]⟩ : ByteArray) ++ x7)).bind fun t172 => (if t172 = true then (some false) else ((scholiumlaw08_wakes.f k).bind fun t173 => (some t173)))) else (none)))))))) else (none)) else (if x7.size + 1 ≤ 9223372036854775807 then ((schema_Null.f k (x7 ++ (⟨#[120]⟩ : ByteArray))).bind fun t174 => (if t174 = true then (some false) else ((schema_Bool.f k (x7 ++ (⟨#[32]⟩ : ByteArray))).bind fun t175 => (if t175 = true then (some false) else ((schema_Null.f k (x7 ++ (⟨#[32]⟩ : ByteArray))).bind fun t176 => (if t176 = true then (some false) else ((schema_Int.f (x7 ++ (⟨#[32]⟩ : ByteArray))).bind fun t177 => (if t177 = true then (some false) else (if 1 + x7.size ≤ 9223372036854775807 then ((schema_Float.f k ((⟨#[32]⟩ : ByteArray) ++ x7)).bind fun t178 => (if t178 = true then (some false) else ((scholiumlaw08_wakes.f k).bind fun t179 => (some t179)))) else (none)))))))))) else (none))) else (if x7.size + 1 ≤ 9223372036854775807 then ((schema_Bool.f k (x7 ++ (⟨#[32]⟩ : ByteArray))).bind fun t180 => (if t180 = true then (some false) else ((schema_Null.f k (x7 ++ (⟨#[32]⟩ : ByteArray))).bind fun t181 => (if t181 = true then (some false) else ((schema_Int.f (x7 ++ (⟨#[32]⟩ : ByteArray))).bind fun t182 => (if t182 = true then (some false) else (if 1 + x7.size ≤ 9223372036854775807 then ((schema_Float.f k ((⟨#[32]⟩ : ByteArray) ++ x7)).bind fun t183 => (if t183 = true then (some false) else ((scholiumlaw08_wakes.f k).bind fun t184 => (some t184)))) else (none)))))))) else (none)))
def scholiumlaw08_SchemaSigns.j2 : Nat → ByteArray → Bool → Option (Bool)
  | 0, _, _ => none
  | k + 1, x7, x72 => if x72 = true then (some false) else ((schema_Int.f x7).bind fun t166 => (if t166 = true then ((schema_Float.f k x7).bind fun t167 => (if t167 = true then (scholiumlaw08_SchemaSigns.j3 k x7) else (some false))) else (scholiumlaw08_SchemaSigns.j3 k x7)))
end
def scholiumlaw08_SchemaSigns.f (k : Nat) (a0 : ByteArray) (l1 : List Int) (a2 : Bool) : Option (Bool) := (scholiumlaw08_text.f k a0 l1 a2).bind fun t157 => (if t157.toList = ([] : List UInt8) then (scholiumlaw08_SchemaSigns.j0 k t157 false) else (if 0 < (t157.size : Int) then (if (bt t157 0) ≥ 48 then (scholiumlaw08_SchemaSigns.j0 k t157 (decide ((bt t157 0) ≤ 57))) else (scholiumlaw08_SchemaSigns.j0 k t157 false)) else (none)))
theorem scholiumlaw08_SchemaSigns.mono_l : ∀ k, (∀ y0 y1, LeO (scholiumlaw08_SchemaSigns.j0 k y0 y1) (scholiumlaw08_SchemaSigns.j0 (k + 1) y0 y1)) ∧ (∀ y0 y1, LeO (scholiumlaw08_SchemaSigns.j1 k y0 y1) (scholiumlaw08_SchemaSigns.j1 (k + 1) y0 y1)) ∧ (∀ y0, LeO (scholiumlaw08_SchemaSigns.j3 k y0) (scholiumlaw08_SchemaSigns.j3 (k + 1) y0)) ∧ (∀ y0 y1, LeO (scholiumlaw08_SchemaSigns.j2 k y0 y1) (scholiumlaw08_SchemaSigns.j2 (k + 1) y0 y1))
  | 0 => ⟨fun _ _ r h => by simp [scholiumlaw08_SchemaSigns.j0] at h, fun _ _ r h => by simp [scholiumlaw08_SchemaSigns.j1] at h, fun _ r h => by simp [scholiumlaw08_SchemaSigns.j3] at h, fun _ _ r h => by simp [scholiumlaw08_SchemaSigns.j2] at h⟩
  | k + 1 => by
    obtain ⟨ih0, ih1, ih2, ih3⟩ := scholiumlaw08_SchemaSigns.mono_l k
    refine ⟨?_, ?_, ?_, ?_⟩
    · intro y0 y1
      unfold scholiumlaw08_SchemaSigns.j0
      repeat' first
      | (with_reducible exact ih0 _ _)
      | (with_reducible exact ih1 _ _)
      | (with_reducible exact ih2 _)
      | (with_reducible exact ih3 _ _)
      | (with_reducible exact schema_Bool.mono _ _)
      | (with_reducible exact schema_Float.mono _ _)
      | (with_reducible exact schema_Null.mono _ _)
      | (with_reducible exact scholiumlaw08_text.mono _ _ _ _)
      | (with_reducible exact scholiumlaw08_wakes.mono _)
      | (with_reducible exact LeO.refl _)
      | (with_reducible exact LeO.none _)
      | (with_reducible refine LeO.ite ?_ ?_)
      | (with_reducible refine LeO.bind ?_ (fun _ => ?_))
      | exact ih0 _ _
      | exact ih1 _ _
      | exact ih2 _
      | exact ih3 _ _
      | exact schema_Bool.mono _ _
      | exact schema_Float.mono _ _
      | exact schema_Null.mono _ _
      | exact scholiumlaw08_text.mono _ _ _ _
      | exact scholiumlaw08_wakes.mono _
      | exact LeO.none _
      | refine LeO.ite ?_ ?_
      | refine LeO.bind ?_ (fun _ => ?_)
    · intro y0 y1
      unfold scholiumlaw08_SchemaSigns.j1
      repeat' first
      | (with_reducible exact ih0 _ _)
      | (with_reducible exact ih1 _ _)
      | (with_reducible exact ih2 _)
      | (with_reducible exact ih3 _ _)
      | (with_reducible exact schema_Bool.mono _ _)
      | (with_reducible exact schema_Float.mono _ _)
      | (with_reducible exact schema_Null.mono _ _)
      | (with_reducible exact scholiumlaw08_text.mono _ _ _ _)
      | (with_reducible exact scholiumlaw08_wakes.mono _)
      | (with_reducible exact LeO.refl _)
      | (with_reducible exact LeO.none _)
      | (with_reducible refine LeO.ite ?_ ?_)
      | (with_reducible refine LeO.bind ?_ (fun _ => ?_))
      | exact ih0 _ _
      | exact ih1 _ _
      | exact ih2 _
      | exact ih3 _ _
      | exact schema_Bool.mono _ _
      | exact schema_Float.mono _ _
      | exact schema_Null.mono _ _
      | exact scholiumlaw08_text.mono _ _ _ _
      | exact scholiumlaw08_wakes.mono _
      | exact LeO.none _
      | refine LeO.ite ?_ ?_
      | refine LeO.bind ?_ (fun _ => ?_)
    · intro y0
      unfold scholiumlaw08_SchemaSigns.j3
      repeat' first
      | (with_reducible exact ih0 _ _)
      | (with_reducible exact ih1 _ _)
      | (with_reducible exact ih2 _)
      | (with_reducible exact ih3 _ _)
      | (with_reducible exact schema_Bool.mono _ _)
      | (with_reducible exact schema_Float.mono _ _)
      | (with_reducible exact schema_Null.mono _ _)
      | (with_reducible exact scholiumlaw08_text.mono _ _ _ _)
      | (with_reducible exact scholiumlaw08_wakes.mono _)
      | (with_reducible exact LeO.refl _)
      | (with_reducible exact LeO.none _)
      | (with_reducible refine LeO.ite ?_ ?_)
      | (with_reducible refine LeO.bind ?_ (fun _ => ?_))
      | exact ih0 _ _
      | exact ih1 _ _
      | exact ih2 _
      | exact ih3 _ _
      | exact schema_Bool.mono _ _
      | exact schema_Float.mono _ _
      | exact schema_Null.mono _ _
      | exact scholiumlaw08_text.mono _ _ _ _
      | exact scholiumlaw08_wakes.mono _
      | exact LeO.none _
      | refine LeO.ite ?_ ?_
      | refine LeO.bind ?_ (fun _ => ?_)
    · intro y0 y1
      unfold scholiumlaw08_SchemaSigns.j2
      repeat' first
      | (with_reducible exact ih0 _ _)
      | (with_reducible exact ih1 _ _)
      | (with_reducible exact ih2 _)
      | (with_reducible exact ih3 _ _)
      | (with_reducible exact schema_Bool.mono _ _)
      | (with_reducible exact schema_Float.mono _ _)
      | (with_reducible exact schema_Null.mono _ _)
      | (with_reducible exact scholiumlaw08_text.mono _ _ _ _)
      | (with_reducible exact scholiumlaw08_wakes.mono _)
      | (with_reducible exact LeO.refl _)
      | (with_reducible exact LeO.none _)
      | (with_reducible refine LeO.ite ?_ ?_)
      | (with_reducible refine LeO.bind ?_ (fun _ => ?_))
      | exact ih0 _ _
      | exact ih1 _ _
      | exact ih2 _
      | exact ih3 _ _
      | exact schema_Bool.mono _ _
      | exact schema_Float.mono _ _
      | exact schema_Null.mono _ _
      | exact scholiumlaw08_text.mono _ _ _ _
      | exact scholiumlaw08_wakes.mono _
      | exact LeO.none _
      | refine LeO.ite ?_ ?_
      | refine LeO.bind ?_ (fun _ => ?_)
theorem scholiumlaw08_SchemaSigns.mono : ∀ a0 a1 a2 k, LeO (scholiumlaw08_SchemaSigns.f k a0 a1 a2) (scholiumlaw08_SchemaSigns.f (k + 1) a0 a1 a2) := by
  intro a0 a1 a2 k
  obtain ⟨ih0, ih1, ih2, ih3⟩ := scholiumlaw08_SchemaSigns.mono_l k
  unfold scholiumlaw08_SchemaSigns.f
  repeat' first
      | (with_reducible exact ih0 _ _)
      | (with_reducible exact ih1 _ _)
      | (with_reducible exact ih2 _)
      | (with_reducible exact ih3 _ _)
      | (with_reducible exact schema_Bool.mono _ _)
      | (with_reducible exact schema_Float.mono _ _)
      | (with_reducible exact schema_Null.mono _ _)
      | (with_reducible exact scholiumlaw08_text.mono _ _ _ _)
      | (with_reducible exact scholiumlaw08_wakes.mono _)
      | (with_reducible exact LeO.refl _)
      | (with_reducible exact LeO.none _)
      | (with_reducible refine LeO.ite ?_ ?_)
      | (with_reducible refine LeO.bind ?_ (fun _ => ?_))
      | exact ih0 _ _
      | exact ih1 _ _
      | exact ih2 _
      | exact ih3 _ _
      | exact schema_Bool.mono _ _
      | exact schema_Float.mono _ _
      | exact schema_Null.mono _ _
      | exact scholiumlaw08_text.mono _ _ _ _
      | exact scholiumlaw08_wakes.mono _
      | exact LeO.none _
      | refine LeO.ite ?_ ?_
      | refine LeO.bind ?_ (fun _ => ?_)
set_option maxHeartbeats 8000000 in
set_option maxRecDepth 100000 in
theorem scholiumlaw08_SchemaSigns.calls (k : Nat) (a0 : ByteArray) (A1 : Option Addr) (c1 : Nat) (l1 : List Int) (a2 : Bool) (r : Bool) (w : World) (hr1 : Kd.C (Kd.int .i64) w A1 l1.length l1) (hc1 : l1.length ≤ c1) (h : scholiumlaw08_SchemaSigns.f k a0 l1 a2 = some r) :
    Calls Try.prog 6 #[.string a0, .slice A1 l1.length c1, .bool a2] w fun e w' => e = .returned (.bool r) ∧ Below w.heap.size w w' := by
  have HR1 := Aside0.mk hr1
  have HC1 := Aside0.mk hc1
  clear hr1 hc1
  have HB := Aside0.mk (Below.refl w.heap.size w)
  have H : ((scholiumlaw08_text.f k a0 l1 a2).bind fun t157 => (if t157.toList = ([] : List UInt8) then (scholiumlaw08_SchemaSigns.j0 k t157 false) else (if 0 < (t157.size : Int) then (if (bt t157 0) ≥ 48 then (scholiumlaw08_SchemaSigns.j0 k t157 (decide ((bt t157 0) ≤ 57))) else (scholiumlaw08_SchemaSigns.j0 k t157 false)) else (none)))) = some r := h
  clear h
  replace H := Option.bind_eq_some_iff.mp H
  obtain ⟨t157, A40, H⟩ := H
  replace H : (if t157.toList = ([] : List UInt8) then (scholiumlaw08_SchemaSigns.j0 k t157 false) else (if 0 < (t157.size : Int) then (if (bt t157 0) ≥ 48 then (scholiumlaw08_SchemaSigns.j0 k t157 (decide ((bt t157 0) ≤ 57))) else (scholiumlaw08_SchemaSigns.j0 k t157 false)) else (none))) = some r := H
  have A4 := Aside0.mk A40
  clear A40
  have HC5 := Aside0.mk H
  clear H
  go_enter Try.func6, Try.ntmps6
  go_upto_region 2 with (first | ((with_reducible refine gate_callee (f := 14) rfl ?_); refine goesL_ (some 12) rfl rfl Try.func14 (by kernel_rfl) rfl #[.string a0, .slice A1 l1.length c1, .bool a2] rfl (by (try simp only [List.map_toArray, List.map_cons, List.map_nil]); first | done | rfl | (simp only [List.length_drop, List.length_take]; rfl)) ?_; (with_reducible refine (scholiumlaw08_text.calls k a0 _ _ l1 a2 t157 _ ?side1 ?side2 A4.out).mono ?_); (case side1 => repeat (first | exact HR1.out | (with_reducible refine Kd.C_alloc ?_ _) | (with_reducible refine Kd.C_drewN ?_ _) | (with_reducible refine Kd.C_drew ?_))); (case side2 => exact HC1.out); rintro e w6 ⟨rfl, hb⟩; refine ⟨_, rfl, ?_⟩; have n0_ := Aside0.mk (below_step (by repeat (first | (with_reducible first | exact HB.out | apply below_alloc | apply pw_below_drewN | apply below_drew1) | exact HB.out)) hb); clear HB; have HB := n0_; clear n0_; (try clear hb); (try clear hb2); (try clear hk); (try clear hi)))
  (try simp only [Act.put, List.setIfInBounds_toArray, List.set_cons_zero, List.set_cons_succ])
  go_cut [8] (fun v8 wc => ∃ (kq : Nat) (x8_4 : Bool), v8 = .bool x8_4 ∧ Aside0 (scholiumlaw08_SchemaSigns.j0 kq t157 x8_4 = some r) ∧ Aside0 (kq ≤ k) ∧ Aside0 (Below w.heap.size w wc))
  case first =>
    have H := HC5.out
    clear HC5
    by_cases c7 : t157.toList = ([] : List UInt8)
    · rw [if_pos c7] at H
      have c7b0 : (t157.toList == ([] : List UInt8)) = true := beq_iff_eq.mpr c7
      have c7b1 : (t157.toList != ([] : List UInt8)) = false := bne_eq_false_iff_eq.mpr c7
      clear c7
      (first | rw [c7b0] | (simp only [i64_w, i32_w]; rw [c7b0]) | skip)
      have H' := Aside0.mk H
      clear H
      go_wp2
      go_meet
      case rel => exact ⟨_, (false), (by first | rfl | (simp; done) | (simp [*]; done)), H', ⟨by first | omega | exact Nat.le_refl _⟩, ⟨by repeat (first | (with_reducible first | exact HB.out | apply below_alloc | apply pw_below_drewN | apply below_drew1) | exact HB.out)⟩⟩
    · rw [if_neg c7] at H
      have c7b0 : (t157.toList == ([] : List UInt8)) = false := beq_eq_false_iff_ne.mpr c7
      have c7b1 : (t157.toList != ([] : List UInt8)) = true := bne_iff_ne.mpr c7
      (first | rw [c7b0] | (simp only [i64_w, i32_w]; rw [c7b0]) | skip)
      by_cases c8 : 0 < (t157.size : Int)
      · rw [if_pos c8] at H
        have c8b0 : decide (0 < (t157.size : Int)) = true := decide_eq_true c8
        have c8b1 : decide (0 < t157.size) = true := decide_eq_true (by omega)
        clear c8
        by_cases c10 : (bt t157 0) ≥ 48
        · rw [if_pos c10] at H
          have c10b0 : decide (48 ≤ (bt t157 0)) = true := decide_eq_true c10
          clear c10
          have H' := Aside0.mk H
          clear H
          have p9 : 0 ≤ (0 : Int) := (by omega)
          have q9 : 0 < t157.size := (by have : (0 : Int) < (t157.size : Int) := of_decide_eq_true (by first | (with_reducible assumption) | assumption); omega)
          have hx9 : ∀ h : 0 < t157.size, ((t157[0]'h).toNat : Int) = bt t157 0 := bt_at t157 0
          clear p9
          have qi9 : (0 < (t157.size : Int)) = True := eq_true (of_decide_eq_true (by first | (with_reducible assumption) | assumption))
          replace q9 := eq_true q9
          have p11 : 0 ≤ (0 : Int) := (by omega)
          have q11 : 0 < t157.size := (by have : (0 : Int) < (t157.size : Int) := of_decide_eq_true (by first | (with_reducible assumption) | assumption); omega)
          have hx11 : ∀ h : 0 < t157.size, ((t157[0]'h).toNat : Int) = bt t157 0 := bt_at t157 0
          clear p11
          have qi11 : (0 < (t157.size : Int)) = True := eq_true (of_decide_eq_true (by first | (with_reducible assumption) | assumption))
          replace q11 := eq_true q11
          go_wp2
          go_meet
          case rel => exact ⟨_, (decide ((bt t157 0) ≤ 57)), (by first | rfl | (simp; done) | (simp [*]; done)), H', ⟨by first | omega | exact Nat.le_refl _⟩, ⟨by repeat (first | (with_reducible first | exact HB.out | apply below_alloc | apply pw_below_drewN | apply below_drew1) | exact HB.out)⟩⟩
        · rw [if_neg c10] at H
          have c10b0 : decide (48 ≤ (bt t157 0)) = false := decide_eq_false c10
          clear c10
          have H' := Aside0.mk H
          clear H
          have p9 : 0 ≤ (0 : Int) := (by omega)
          have q9 : 0 < t157.size := (by have : (0 : Int) < (t157.size : Int) := of_decide_eq_true (by first | (with_reducible assumption) | assumption); omega)
          have hx9 : ∀ h : 0 < t157.size, ((t157[0]'h).toNat : Int) = bt t157 0 := bt_at t157 0
          clear p9
          have qi9 : (0 < (t157.size : Int)) = True := eq_true (of_decide_eq_true (by first | (with_reducible assumption) | assumption))
          replace q9 := eq_true q9
          go_wp2
          go_meet
          case rel => exact ⟨_, (false), (by first | rfl | (simp; done) | (simp [*]; done)), H', ⟨by first | omega | exact Nat.le_refl _⟩, ⟨by repeat (first | (with_reducible first | exact HB.out | apply below_alloc | apply pw_below_drewN | apply below_drew1) | exact HB.out)⟩⟩
      · rw [if_neg c8] at H
        exact absurd H (by simp)
  case rest =>
    clear HC5
    try clear c1
    try clear p1
    try clear q1
    try clear hx1
    try clear qi1
    try clear p2
    try clear c6
    try clear c7
    try clear c7b0
    try clear c7b1
    try clear c8
    try clear c8b0
    try clear c8b1
    try clear p9
    try clear q9
    try clear hx9
    try clear qi9
    try clear c10
    try clear c10b0
    try clear p11
    try clear q11
    try clear hx11
    try clear qi11
    try clear p11
    try clear p9
    try clear q11
    try clear q9
    obtain ⟨kq, x8_4, rfl, HA, HJ4, HB⟩ := hcut
    cases kq with
    | zero => exact absurd HA.out (by simp [scholiumlaw08_SchemaSigns.j0])
    | succ kj4 =>
      have H := HA.out
      clear HA
      simp only [scholiumlaw08_SchemaSigns.j0] at H
      have HC12 := Aside0.mk H
      clear H
      go_upto_region 3 with (fail)
      go_cut [40] (fun v40 wc => ∃ (kq : Nat) (x40_11 : Bool), v40 = .bool x40_11 ∧ Aside0 (scholiumlaw08_SchemaSigns.j1 kq t157 x40_11 = some r) ∧ Aside0 (kq ≤ kj4) ∧ Aside0 (Below w.heap.size w wc))
      case first =>
        have H := HC12.out
        clear HC12
        by_cases c13 : x8_4 = true
        · subst c13
          have H1 : (if (t157.size : Int) < 2 then (scholiumlaw08_SchemaSigns.j1 kj4 t157 true) else (if 1 < (t157.size : Int) then (if (bt t157 1) = 111 then (scholiumlaw08_SchemaSigns.j1 kj4 t157 false) else (scholiumlaw08_SchemaSigns.j1 kj4 t157 ((bt t157 1) != 120))) else (none))) = some r := by rw [if_pos rfl] at H; exact H
          clear H
          have H := H1
          clear H1
          by_cases c14 : (t157.size : Int) < 2
          · rw [if_pos c14] at H
            have c14b0 : decide ((t157.size : Int) < 2) = true := decide_eq_true c14
            have c14b1 : decide (t157.size < 2) = true := decide_eq_true (by omega)
            clear c14
            (first | rw [c14b0] | (simp only [i64_w, i32_w]; rw [c14b0]) | skip)
            have H' := Aside0.mk H
            clear H
            go_wp2
            go_meet
            case rel => exact ⟨_, (true), (by first | rfl | (simp; done) | (simp [*]; done)), H', ⟨by have := HJ4.out; first | omega | exact Nat.le_refl _⟩, ⟨by repeat (first | (with_reducible first | exact HB.out | apply below_alloc | apply pw_below_drewN | apply below_drew1) | exact HB.out)⟩⟩
          · rw [if_neg c14] at H
            have c14b0 : decide ((t157.size : Int) < 2) = false := decide_eq_false c14
            have c14b1 : decide (t157.size < 2) = false := decide_eq_false (by omega)
            clear c14
            (first | rw [c14b0] | (simp only [i64_w, i32_w]; rw [c14b0]) | skip)
            by_cases c15 : 1 < (t157.size : Int)
            · rw [if_pos c15] at H
              have c15b0 : decide (1 < (t157.size : Int)) = true := decide_eq_true c15
              have c15b1 : decide (1 < t157.size) = true := decide_eq_true (by omega)
              clear c15
              by_cases c17 : (bt t157 1) = 111
              · rw [if_pos c17] at H
                have c17b0 : ((bt t157 1) == 111) = true := beq_iff_eq.mpr c17
                have c17b1 : ((bt t157 1) != 111) = false := bne_eq_false_iff_eq.mpr c17
                clear c17
                have H' := Aside0.mk H
                clear H
                have p16 : 0 ≤ (1 : Int) := (by omega)
                have q16 : 1 < t157.size := (by have : (1 : Int) < (t157.size : Int) := of_decide_eq_true (by first | (with_reducible assumption) | assumption); omega)
                have hx16 : ∀ h : 1 < t157.size, ((t157[1]'h).toNat : Int) = bt t157 1 := bt_at t157 1
                clear p16
                have qi16 : (1 < (t157.size : Int)) = True := eq_true (of_decide_eq_true (by first | (with_reducible assumption) | assumption))
                replace q16 := eq_true q16
                go_wp2
                go_meet
                case rel => exact ⟨_, (false), (by first | rfl | (simp; done) | (simp [*]; done)), H', ⟨by have := HJ4.out; first | omega | exact Nat.le_refl _⟩, ⟨by repeat (first | (with_reducible first | exact HB.out | apply below_alloc | apply pw_below_drewN | apply below_drew1) | exact HB.out)⟩⟩
              · rw [if_neg c17] at H
                have c17b0 : ((bt t157 1) == 111) = false := beq_eq_false_iff_ne.mpr c17
                have c17b1 : ((bt t157 1) != 111) = true := bne_iff_ne.mpr c17
                have H' := Aside0.mk H
                clear H
                have p16 : 0 ≤ (1 : Int) := (by omega)
                have q16 : 1 < t157.size := (by have : (1 : Int) < (t157.size : Int) := of_decide_eq_true (by first | (with_reducible assumption) | assumption); omega)
                have hx16 : ∀ h : 1 < t157.size, ((t157[1]'h).toNat : Int) = bt t157 1 := bt_at t157 1
                clear p16
                have qi16 : (1 < (t157.size : Int)) = True := eq_true (of_decide_eq_true (by first | (with_reducible assumption) | assumption))
                replace q16 := eq_true q16
                have p18 : 0 ≤ (1 : Int) := (by omega)
                have q18 : 1 < t157.size := (by have : (1 : Int) < (t157.size : Int) := of_decide_eq_true (by first | (with_reducible assumption) | assumption); omega)
                have hx18 : ∀ h : 1 < t157.size, ((t157[1]'h).toNat : Int) = bt t157 1 := bt_at t157 1
                clear p18
                have qi18 : (1 < (t157.size : Int)) = True := eq_true (of_decide_eq_true (by first | (with_reducible assumption) | assumption))
                replace q18 := eq_true q18
                go_wp2
                go_meet
                case rel => exact ⟨_, (((bt t157 1) != 120)), (by first | rfl | (simp; done) | (simp [*]; done)), H', ⟨by have := HJ4.out; first | omega | exact Nat.le_refl _⟩, ⟨by repeat (first | (with_reducible first | exact HB.out | apply below_alloc | apply pw_below_drewN | apply below_drew1) | exact HB.out)⟩⟩
            · rw [if_neg c15] at H
              exact absurd H (by simp)
        · replace c13 := Bool.eq_false_iff.mpr c13
          subst c13
          have H1 : (scholiumlaw08_SchemaSigns.j1 kj4 t157 false) = some r := by rw [if_neg (show ¬ (false = true) by decide)] at H; exact H
          clear H
          have H := H1
          clear H1
          have H' := Aside0.mk H
          clear H
          go_wp2
          go_meet
          case rel => exact ⟨_, (false), (by first | rfl | (simp; done) | (simp [*]; done)), H', ⟨by have := HJ4.out; first | omega | exact Nat.le_refl _⟩, ⟨by repeat (first | (with_reducible first | exact HB.out | apply below_alloc | apply pw_below_drewN | apply below_drew1) | exact HB.out)⟩⟩
      case rest =>
        clear HC12
        try clear c1
        try clear p1
        try clear q1
        try clear hx1
        try clear qi1
        try clear p2
        try clear c6
        try clear c7
        try clear c7b0
        try clear c7b1
        try clear c8
        try clear c8b0
        try clear c8b1
        try clear p9
        try clear q9
        try clear hx9
        try clear qi9
        try clear c10
        try clear c10b0
        try clear p11
        try clear q11
        try clear hx11
        try clear qi11
        try clear c13
        try clear c14
        try clear c14b0
        try clear c14b1
        try clear c15
        try clear c15b0
        try clear c15b1
        try clear p16
        try clear q16
        try clear hx16
        try clear qi16
        try clear c17
        try clear c17b0
        try clear c17b1
        try clear p18
        try clear q18
        try clear hx18
        try clear qi18
        try clear p1
        try clear p11
        try clear p16
        try clear p18
        try clear p2
        try clear p9
        try clear q1
        try clear q11
        try clear q16
        try clear q18
        try clear q9
        obtain ⟨kq, x40_11, rfl, HA, HJ11, HB⟩ := hcut
        cases kq with
        | zero => exact absurd HA.out (by simp [scholiumlaw08_SchemaSigns.j1])
        | succ kj11 =>
          have H := HA.out
          clear HA
          simp only [scholiumlaw08_SchemaSigns.j1] at H
          have HC19 := Aside0.mk H
          clear H
          go_upto_if 40 with (fail)
          go_cut [] (fun wc => ∃ (kq : Nat), Aside0 (scholiumlaw08_SchemaSigns.j3 kq t157 = some r) ∧ Aside0 (kq ≤ kj11) ∧ Aside0 (Below w.heap.size w wc))
          case first =>
            have H := HC19.out
            clear HC19
            by_cases c20 : x40_11 = true
            · subst c20
              have H1 : ((schema_Int.f t157).bind fun t158 => (if 1 + t157.size ≤ 9223372036854775807 then ((schema_Int.f ((⟨#[45]⟩ : ByteArray) ++ t157)).bind fun t159 => (if (t158 != t159) = true then (scholiumlaw08_SchemaSigns.j2 kj11 t157 true) else ((schema_Int.f t157).bind fun t160 => ((schema_Int.f ((⟨#[43]⟩ : ByteArray) ++ t157)).bind fun t161 => (if (t160 != t161) = true then (scholiumlaw08_SchemaSigns.j2 kj11 t157 true) else ((schema_Float.f kj11 t157).bind fun t162 => ((schema_Float.f kj11 ((⟨#[45]⟩ : ByteArray) ++ t157)).bind fun t163 => (if (t162 != t163) = true then (scholiumlaw08_SchemaSigns.j2 kj11 t157 true) else (if 2 + t157.size ≤ 9223372036854775807 then ((schema_Int.f ((⟨#[45, 45]⟩ : ByteArray) ++ t157)).bind fun t164 => (if t164 = true then (scholiumlaw08_SchemaSigns.j2 kj11 t157 true) else ((schema_Float.f kj11 ((⟨#[43, 45]⟩ : ByteArray) ++ t157)).bind fun t165 => (scholiumlaw08_SchemaSigns.j2 kj11 t157 t165)))) else (none)))))))))) else (none))) = some r := by rw [if_pos rfl] at H; exact H
              clear H
              have H := H1
              clear H1
              have HC21 := Aside0.mk H
              clear H
              go_upto_region 4 with (fail)
              go_cut [72] (fun v72 wc => ∃ (kq : Nat) (x72_20 : Bool), v72 = .bool x72_20 ∧ Aside0 (scholiumlaw08_SchemaSigns.j2 kq t157 x72_20 = some r) ∧ Aside0 (kq ≤ kj11) ∧ Aside0 (Below w.heap.size w wc))
              case first =>
                have H := HC21.out
                clear HC21
                replace H := Option.bind_eq_some_iff.mp H
                obtain ⟨t158, A220, H⟩ := H
                replace H : (if 1 + t157.size ≤ 9223372036854775807 then ((schema_Int.f ((⟨#[45]⟩ : ByteArray) ++ t157)).bind fun t159 => (if (t158 != t159) = true then (scholiumlaw08_SchemaSigns.j2 kj11 t157 true) else ((schema_Int.f t157).bind fun t160 => ((schema_Int.f ((⟨#[43]⟩ : ByteArray) ++ t157)).bind fun t161 => (if (t160 != t161) = true then (scholiumlaw08_SchemaSigns.j2 kj11 t157 true) else ((schema_Float.f kj11 t157).bind fun t162 => ((schema_Float.f kj11 ((⟨#[45]⟩ : ByteArray) ++ t157)).bind fun t163 => (if (t162 != t163) = true then (scholiumlaw08_SchemaSigns.j2 kj11 t157 true) else (if 2 + t157.size ≤ 9223372036854775807 then ((schema_Int.f ((⟨#[45, 45]⟩ : ByteArray) ++ t157)).bind fun t164 => (if t164 = true then (scholiumlaw08_SchemaSigns.j2 kj11 t157 true) else ((schema_Float.f kj11 ((⟨#[43, 45]⟩ : ByteArray) ++ t157)).bind fun t165 => (scholiumlaw08_SchemaSigns.j2 kj11 t157 t165)))) else (none)))))))))) else (none)) = some r := H
                have A22 := Aside0.mk A220
                clear A220
                by_cases c23 : 1 + t157.size ≤ 9223372036854775807
                · rw [if_pos c23] at H
                  have c23b0 := eq_true c23
                  have c23b1 : decide (1 + t157.size ≤ 9223372036854775807) = true := decide_eq_true c23
                  try have c23b2 : (9223372036854775807 < 1 + t157.size) = False := eq_false (Nat.not_lt.2 c23)
                  replace H := Option.bind_eq_some_iff.mp H
                  obtain ⟨t159, A240, H⟩ := H
                  replace H : (if (t158 != t159) = true then (scholiumlaw08_SchemaSigns.j2 kj11 t157 true) else ((schema_Int.f t157).bind fun t160 => ((schema_Int.f ((⟨#[43]⟩ : ByteArray) ++ t157)).bind fun t161 => (if (t160 != t161) = true then (scholiumlaw08_SchemaSigns.j2 kj11 t157 true) else ((schema_Float.f kj11 t157).bind fun t162 => ((schema_Float.f kj11 ((⟨#[45]⟩ : ByteArray) ++ t157)).bind fun t163 => (if (t162 != t163) = true then (scholiumlaw08_SchemaSigns.j2 kj11 t157 true) else (if 2 + t157.size ≤ 9223372036854775807 then ((schema_Int.f ((⟨#[45, 45]⟩ : ByteArray) ++ t157)).bind fun t164 => (if t164 = true then (scholiumlaw08_SchemaSigns.j2 kj11 t157 true) else ((schema_Float.f kj11 ((⟨#[43, 45]⟩ : ByteArray) ++ t157)).bind fun t165 => (scholiumlaw08_SchemaSigns.j2 kj11 t157 t165)))) else (none))))))))) = some r := H
                  have A24 := Aside0.mk A240
                  clear A240
                  by_cases c25 : (t158 != t159) = true
                  · rw [if_pos c25] at H
                    have c25b0 : (t158 != t159) = true := c25
                    (try (have c25b1 : decide (t158 = t159) = false := by simpa using c25))
                    (try (have c25b2 : (t158 == t159) = false := by simpa using c25))
                    (try (have c25b3 : ¬ (t158 = t159) := by simpa using c25))
                    clear c25
                    (first | rw [c25b0] | (simp only [i64_w, i32_w]; rw [c25b0]) | skip)
                    have H' := Aside0.mk H
                    clear H
                    go_wp2_with (first | ((with_reducible refine gate_callee (f := 17) rfl ?_); refine goesL_ (some 42) rfl rfl Try.func17 (by kernel_rfl) rfl #[.string t157] rfl (by (try simp only [List.map_toArray, List.map_cons, List.map_nil]); first | done | rfl | (simp only [List.length_drop, List.length_take]; rfl)) ?_; (with_reducible refine (schema_Int.calls t157 t158 _ A22.out).mono ?_); rintro e w26 ⟨rfl, hb⟩; refine ⟨_, rfl, ?_⟩; have n0_ := Aside0.mk (below_step (by repeat (first | (with_reducible first | exact HB.out | apply below_alloc | apply pw_below_drewN | apply below_drew1) | exact HB.out)) hb); clear HB; have HB := n0_; clear n0_; (try clear hb); (try clear hb2); (try clear hk); (try clear hi)) | ((with_reducible refine gate_callee (f := 17) rfl ?_); refine goesL_ (some 45) rfl rfl Try.func17 (by kernel_rfl) rfl #[.string ((⟨#[45]⟩ : ByteArray) ++ t157)] rfl (by (try simp only [List.map_toArray, List.map_cons, List.map_nil]); first | done | rfl | (simp only [List.length_drop, List.length_take]; rfl)) ?_; (with_reducible refine (schema_Int.calls ((⟨#[45]⟩ : ByteArray) ++ t157) t159 _ A24.out).mono ?_); rintro e w27 ⟨rfl, hb⟩; refine ⟨_, rfl, ?_⟩; have n0_ := Aside0.mk (below_step (by repeat (first | (with_reducible first | exact HB.out | apply below_alloc | apply pw_below_drewN | apply below_drew1) | exact HB.out)) hb); clear HB; have HB := n0_; clear n0_; (try clear hb); (try clear hb2); (try clear hk); (try clear hi)))
                    go_meet
                    case rel => exact ⟨_, (true), (by first | rfl | (simp; done) | (simp [*]; done)), H', ⟨by have := HJ4.out; have := HJ11.out; first | omega | exact Nat.le_refl _⟩, ⟨by repeat (first | (with_reducible first | exact HB.out | apply below_alloc | apply pw_below_drewN | apply below_drew1) | exact HB.out)⟩⟩
                  · rw [if_neg c25] at H
                    have c25b0 : (t158 != t159) = false := by simpa using c25
                    (try (have c25b1 : decide (t158 = t159) = true := by simpa using c25))
                    (try (have c25b2 : (t158 == t159) = true := by simpa using c25))
                    clear c25
                    (first | rw [c25b0] | (simp only [i64_w, i32_w]; rw [c25b0]) | skip)
                    replace H := Option.bind_eq_some_iff.mp H
                    obtain ⟨t160, A280, H⟩ := H
                    replace H : ((schema_Int.f ((⟨#[43]⟩ : ByteArray) ++ t157)).bind fun t161 => (if (t160 != t161) = true then (scholiumlaw08_SchemaSigns.j2 kj11 t157 true) else ((schema_Float.f kj11 t157).bind fun t162 => ((schema_Float.f kj11 ((⟨#[45]⟩ : ByteArray) ++ t157)).bind fun t163 => (if (t162 != t163) = true then (scholiumlaw08_SchemaSigns.j2 kj11 t157 true) else (if 2 + t157.size ≤ 9223372036854775807 then ((schema_Int.f ((⟨#[45, 45]⟩ : ByteArray) ++ t157)).bind fun t164 => (if t164 = true then (scholiumlaw08_SchemaSigns.j2 kj11 t157 true) else ((schema_Float.f kj11 ((⟨#[43, 45]⟩ : ByteArray) ++ t157)).bind fun t165 => (scholiumlaw08_SchemaSigns.j2 kj11 t157 t165)))) else (none))))))) = some r := H
                    have A28 := Aside0.mk A280
                    clear A280
                    replace H := Option.bind_eq_some_iff.mp H
                    obtain ⟨t161, A290, H⟩ := H
                    replace H : (if (t160 != t161) = true then (scholiumlaw08_SchemaSigns.j2 kj11 t157 true) else ((schema_Float.f kj11 t157).bind fun t162 => ((schema_Float.f kj11 ((⟨#[45]⟩ : ByteArray) ++ t157)).bind fun t163 => (if (t162 != t163) = true then (scholiumlaw08_SchemaSigns.j2 kj11 t157 true) else (if 2 + t157.size ≤ 9223372036854775807 then ((schema_Int.f ((⟨#[45, 45]⟩ : ByteArray) ++ t157)).bind fun t164 => (if t164 = true then (scholiumlaw08_SchemaSigns.j2 kj11 t157 true) else ((schema_Float.f kj11 ((⟨#[43, 45]⟩ : ByteArray) ++ t157)).bind fun t165 => (scholiumlaw08_SchemaSigns.j2 kj11 t157 t165)))) else (none)))))) = some r := H
                    have A29 := Aside0.mk A290
                    clear A290
                    by_cases c30 : (t160 != t161) = true
                    · rw [if_pos c30] at H
                      have c30b0 : (t160 != t161) = true := c30
                      (try (have c30b1 : decide (t160 = t161) = false := by simpa using c30))
                      (try (have c30b2 : (t160 == t161) = false := by simpa using c30))
                      (try (have c30b3 : ¬ (t160 = t161) := by simpa using c30))
                      clear c30
                      have H' := Aside0.mk H
                      clear H
                      go_wp2_with (first | ((with_reducible refine gate_callee (f := 17) rfl ?_); refine goesL_ (some 42) rfl rfl Try.func17 (by kernel_rfl) rfl #[.string t157] rfl (by (try simp only [List.map_toArray, List.map_cons, List.map_nil]); first | done | rfl | (simp only [List.length_drop, List.length_take]; rfl)) ?_; (with_reducible refine (schema_Int.calls t157 t158 _ A22.out).mono ?_); rintro e w31 ⟨rfl, hb⟩; refine ⟨_, rfl, ?_⟩; have n0_ := Aside0.mk (below_step (by repeat (first | (with_reducible first | exact HB.out | apply below_alloc | apply pw_below_drewN | apply below_drew1) | exact HB.out)) hb); clear HB; have HB := n0_; clear n0_; (try clear hb); (try clear hb2); (try clear hk); (try clear hi)) | ((with_reducible refine gate_callee (f := 17) rfl ?_); refine goesL_ (some 45) rfl rfl Try.func17 (by kernel_rfl) rfl #[.string ((⟨#[45]⟩ : ByteArray) ++ t157)] rfl (by (try simp only [List.map_toArray, List.map_cons, List.map_nil]); first | done | rfl | (simp only [List.length_drop, List.length_take]; rfl)) ?_; (with_reducible refine (schema_Int.calls ((⟨#[45]⟩ : ByteArray) ++ t157) t159 _ A24.out).mono ?_); rintro e w32 ⟨rfl, hb⟩; refine ⟨_, rfl, ?_⟩; have n0_ := Aside0.mk (below_step (by repeat (first | (with_reducible first | exact HB.out | apply below_alloc | apply pw_below_drewN | apply below_drew1) | exact HB.out)) hb); clear HB; have HB := n0_; clear n0_; (try clear hb); (try clear hb2); (try clear hk); (try clear hi)) | (go_at_call 17; (with_reducible refine (schema_Int.calls t157 t160 _ A28.out).mono ?_); rintro e w33 ⟨rfl, hb⟩; have n0_ := Aside0.mk (below_step (by repeat (first | (with_reducible first | exact HB.out | apply below_alloc | apply pw_below_drewN | apply below_drew1) | exact HB.out)) hb); clear HB; have HB := n0_; clear n0_; (try clear hb); (try clear hb2); (try clear hk); (try clear hi)) | (go_at_call 17; (with_reducible refine (schema_Int.calls ((⟨#[43]⟩ : ByteArray) ++ t157) t161 _ A29.out).mono ?_); rintro e w34 ⟨rfl, hb⟩; have n0_ := Aside0.mk (below_step (by repeat (first | (with_reducible first | exact HB.out | apply below_alloc | apply pw_below_drewN | apply below_drew1) | exact HB.out)) hb); clear HB; have HB := n0_; clear n0_; (try clear hb); (try clear hb2); (try clear hk); (try clear hi)))
                      go_meet
                      case rel => exact ⟨_, (true), (by first | rfl | (simp; done) | (simp [*]; done)), H', ⟨by have := HJ4.out; have := HJ11.out; first | omega | exact Nat.le_refl _⟩, ⟨by repeat (first | (with_reducible first | exact HB.out | apply below_alloc | apply pw_below_drewN | apply below_drew1) | exact HB.out)⟩⟩
                    · rw [if_neg c30] at H
                      have c30b0 : (t160 != t161) = false := by simpa using c30
                      (try (have c30b1 : decide (t160 = t161) = true := by simpa using c30))
                      (try (have c30b2 : (t160 == t161) = true := by simpa using c30))
                      clear c30
                      replace H := Option.bind_eq_some_iff.mp H
                      obtain ⟨t162, A350, H⟩ := H
                      replace H : ((schema_Float.f kj11 ((⟨#[45]⟩ : ByteArray) ++ t157)).bind fun t163 => (if (t162 != t163) = true then (scholiumlaw08_SchemaSigns.j2 kj11 t157 true) else (if 2 + t157.size ≤ 9223372036854775807 then ((schema_Int.f ((⟨#[45, 45]⟩ : ByteArray) ++ t157)).bind fun t164 => (if t164 = true then (scholiumlaw08_SchemaSigns.j2 kj11 t157 true) else ((schema_Float.f kj11 ((⟨#[43, 45]⟩ : ByteArray) ++ t157)).bind fun t165 => (scholiumlaw08_SchemaSigns.j2 kj11 t157 t165)))) else (none)))) = some r := H
                      have A35 := Aside0.mk A350
                      clear A350
                      replace H := Option.bind_eq_some_iff.mp H
                      obtain ⟨t163, A360, H⟩ := H
                      replace H : (if (t162 != t163) = true then (scholiumlaw08_SchemaSigns.j2 kj11 t157 true) else (if 2 + t157.size ≤ 9223372036854775807 then ((schema_Int.f ((⟨#[45, 45]⟩ : ByteArray) ++ t157)).bind fun t164 => (if t164 = true then (scholiumlaw08_SchemaSigns.j2 kj11 t157 true) else ((schema_Float.f kj11 ((⟨#[43, 45]⟩ : ByteArray) ++ t157)).bind fun t165 => (scholiumlaw08_SchemaSigns.j2 kj11 t157 t165)))) else (none))) = some r := H
                      have A36 := Aside0.mk A360
                      clear A360
                      by_cases c37 : (t162 != t163) = true
                      · rw [if_pos c37] at H
                        have c37b0 : (t162 != t163) = true := c37
                        (try (have c37b1 : decide (t162 = t163) = false := by simpa using c37))
                        (try (have c37b2 : (t162 == t163) = false := by simpa using c37))
                        (try (have c37b3 : ¬ (t162 = t163) := by simpa using c37))
                        clear c37
                        have H' := Aside0.mk H
                        clear H
                        go_wp2_with (first | ((with_reducible refine gate_callee (f := 17) rfl ?_); refine goesL_ (some 42) rfl rfl Try.func17 (by kernel_rfl) rfl #[.string t157] rfl (by (try simp only [List.map_toArray, List.map_cons, List.map_nil]); first | done | rfl | (simp only [List.length_drop, List.length_take]; rfl)) ?_; (with_reducible refine (schema_Int.calls t157 t158 _ A22.out).mono ?_); rintro e w38 ⟨rfl, hb⟩; refine ⟨_, rfl, ?_⟩; have n0_ := Aside0.mk (below_step (by repeat (first | (with_reducible first | exact HB.out | apply below_alloc | apply pw_below_drewN | apply below_drew1) | exact HB.out)) hb); clear HB; have HB := n0_; clear n0_; (try clear hb); (try clear hb2); (try clear hk); (try clear hi)) | ((with_reducible refine gate_callee (f := 17) rfl ?_); refine goesL_ (some 45) rfl rfl Try.func17 (by kernel_rfl) rfl #[.string ((⟨#[45]⟩ : ByteArray) ++ t157)] rfl (by (try simp only [List.map_toArray, List.map_cons, List.map_nil]); first | done | rfl | (simp only [List.length_drop, List.length_take]; rfl)) ?_; (with_reducible refine (schema_Int.calls ((⟨#[45]⟩ : ByteArray) ++ t157) t159 _ A24.out).mono ?_); rintro e w39 ⟨rfl, hb⟩; refine ⟨_, rfl, ?_⟩; have n0_ := Aside0.mk (below_step (by repeat (first | (with_reducible first | exact HB.out | apply below_alloc | apply pw_below_drewN | apply below_drew1) | exact HB.out)) hb); clear HB; have HB := n0_; clear n0_; (try clear hb); (try clear hb2); (try clear hk); (try clear hi)) | (go_at_call 17; (with_reducible refine (schema_Int.calls t157 t160 _ A28.out).mono ?_); rintro e w40 ⟨rfl, hb⟩; have n0_ := Aside0.mk (below_step (by repeat (first | (with_reducible first | exact HB.out | apply below_alloc | apply pw_below_drewN | apply below_drew1) | exact HB.out)) hb); clear HB; have HB := n0_; clear n0_; (try clear hb); (try clear hb2); (try clear hk); (try clear hi)) | (go_at_call 17; (with_reducible refine (schema_Int.calls ((⟨#[43]⟩ : ByteArray) ++ t157) t161 _ A29.out).mono ?_); rintro e w41 ⟨rfl, hb⟩; have n0_ := Aside0.mk (below_step (by repeat (first | (with_reducible first | exact HB.out | apply below_alloc | apply pw_below_drewN | apply below_drew1) | exact HB.out)) hb); clear HB; have HB := n0_; clear n0_; (try clear hb); (try clear hb2); (try clear hk); (try clear hi)) | (go_at_call 18; (with_reducible refine (schema_Float.calls kj11 t157 t162 _ A35.out).mono ?_); rintro e w42 ⟨rfl, hb⟩; have n0_ := Aside0.mk (below_step (by repeat (first | (with_reducible first | exact HB.out | apply below_alloc | apply pw_below_drewN | apply below_drew1) | exact HB.out)) hb); clear HB; have HB := n0_; clear n0_; (try clear hb); (try clear hb2); (try clear hk); (try clear hi)) | (go_at_call 18; (with_reducible refine (schema_Float.calls kj11 ((⟨#[45]⟩ : ByteArray) ++ t157) t163 _ A36.out).mono ?_); rintro e w43 ⟨rfl, hb⟩; have n0_ := Aside0.mk (below_step (by repeat (first | (with_reducible first | exact HB.out | apply below_alloc | apply pw_below_drewN | apply below_drew1) | exact HB.out)) hb); clear HB; have HB := n0_; clear n0_; (try clear hb); (try clear hb2); (try clear hk); (try clear hi)))
                        go_meet
                        case rel => exact ⟨_, (true), (by first | rfl | (simp; done) | (simp [*]; done)), H', ⟨by have := HJ4.out; have := HJ11.out; first | omega | exact Nat.le_refl _⟩, ⟨by repeat (first | (with_reducible first | exact HB.out | apply below_alloc | apply pw_below_drewN | apply below_drew1) | exact HB.out)⟩⟩
                      · rw [if_neg c37] at H
                        have c37b0 : (t162 != t163) = false := by simpa using c37
                        (try (have c37b1 : decide (t162 = t163) = true := by simpa using c37))
                        (try (have c37b2 : (t162 == t163) = true := by simpa using c37))
                        clear c37
                        by_cases c44 : 2 + t157.size ≤ 9223372036854775807
                        · rw [if_pos c44] at H
                          have c44b0 := eq_true c44
                          have c44b1 : decide (2 + t157.size ≤ 9223372036854775807) = true := decide_eq_true c44
                          try have c44b2 : (9223372036854775807 < 2 + t157.size) = False := eq_false (Nat.not_lt.2 c44)
                          replace H := Option.bind_eq_some_iff.mp H
                          obtain ⟨t164, A450, H⟩ := H
                          replace H : (if t164 = true then (scholiumlaw08_SchemaSigns.j2 kj11 t157 true) else ((schema_Float.f kj11 ((⟨#[43, 45]⟩ : ByteArray) ++ t157)).bind fun t165 => (scholiumlaw08_SchemaSigns.j2 kj11 t157 t165))) = some r := H
                          have A45 := Aside0.mk A450
                          clear A450
                          by_cases c46 : t164 = true
                          · subst c46
                            have H1 : (scholiumlaw08_SchemaSigns.j2 kj11 t157 true) = some r := by rw [if_pos rfl] at H; exact H
                            clear H
                            have H := H1
                            clear H1
                            have H' := Aside0.mk H
                            clear H
                            go_wp2_with (first | ((with_reducible refine gate_callee (f := 17) rfl ?_); refine goesL_ (some 42) rfl rfl Try.func17 (by kernel_rfl) rfl #[.string t157] rfl (by (try simp only [List.map_toArray, List.map_cons, List.map_nil]); first | done | rfl | (simp only [List.length_drop, List.length_take]; rfl)) ?_; (with_reducible refine (schema_Int.calls t157 t158 _ A22.out).mono ?_); rintro e w47 ⟨rfl, hb⟩; refine ⟨_, rfl, ?_⟩; have n0_ := Aside0.mk (below_step (by repeat (first | (with_reducible first | exact HB.out | apply below_alloc | apply pw_below_drewN | apply below_drew1) | exact HB.out)) hb); clear HB; have HB := n0_; clear n0_; (try clear hb); (try clear hb2); (try clear hk); (try clear hi)) | ((with_reducible refine gate_callee (f := 17) rfl ?_); refine goesL_ (some 45) rfl rfl Try.func17 (by kernel_rfl) rfl #[.string ((⟨#[45]⟩ : ByteArray) ++ t157)] rfl (by (try simp only [List.map_toArray, List.map_cons, List.map_nil]); first | done | rfl | (simp only [List.length_drop, List.length_take]; rfl)) ?_; (with_reducible refine (schema_Int.calls ((⟨#[45]⟩ : ByteArray) ++ t157) t159 _ A24.out).mono ?_); rintro e w48 ⟨rfl, hb⟩; refine ⟨_, rfl, ?_⟩; have n0_ := Aside0.mk (below_step (by repeat (first | (with_reducible first | exact HB.out | apply below_alloc | apply pw_below_drewN | apply below_drew1) | exact HB.out)) hb); clear HB; have HB := n0_; clear n0_; (try clear hb); (try clear hb2); (try clear hk); (try clear hi)) | (go_at_call 17; (with_reducible refine (schema_Int.calls t157 t160 _ A28.out).mono ?_); rintro e w49 ⟨rfl, hb⟩; have n0_ := Aside0.mk (below_step (by repeat (first | (with_reducible first | exact HB.out | apply below_alloc | apply pw_below_drewN | apply below_drew1) | exact HB.out)) hb); clear HB; have HB := n0_; clear n0_; (try clear hb); (try clear hb2); (try clear hk); (try clear hi)) | (go_at_call 17; (with_reducible refine (schema_Int.calls ((⟨#[43]⟩ : ByteArray) ++ t157) t161 _ A29.out).mono ?_); rintro e w50 ⟨rfl, hb⟩; have n0_ := Aside0.mk (below_step (by repeat (first | (with_reducible first | exact HB.out | apply below_alloc | apply pw_below_drewN | apply below_drew1) | exact HB.out)) hb); clear HB; have HB := n0_; clear n0_; (try clear hb); (try clear hb2); (try clear hk); (try clear hi)) | (go_at_call 18; (with_reducible refine (schema_Float.calls kj11 t157 t162 _ A35.out).mono ?_); rintro e w51 ⟨rfl, hb⟩; have n0_ := Aside0.mk (below_step (by repeat (first | (with_reducible first | exact HB.out | apply below_alloc | apply pw_below_drewN | apply below_drew1) | exact HB.out)) hb); clear HB; have HB := n0_; clear n0_; (try clear hb); (try clear hb2); (try clear hk); (try clear hi)) | (go_at_call 18; (with_reducible refine (schema_Float.calls kj11 ((⟨#[45]⟩ : ByteArray) ++ t157) t163 _ A36.out).mono ?_); rintro e w52 ⟨rfl, hb⟩; have n0_ := Aside0.mk (below_step (by repeat (first | (with_reducible first | exact HB.out | apply below_alloc | apply pw_below_drewN | apply below_drew1) | exact HB.out)) hb); clear HB; have HB := n0_; clear n0_; (try clear hb); (try clear hb2); (try clear hk); (try clear hi)) | (go_at_call 17; (with_reducible refine (schema_Int.calls ((⟨#[45, 45]⟩ : ByteArray) ++ t157) true _ A45.out).mono ?_); rintro e w53 ⟨rfl, hb⟩; have n0_ := Aside0.mk (below_step (by repeat (first | (with_reducible first | exact HB.out | apply below_alloc | apply pw_below_drewN | apply below_drew1) | exact HB.out)) hb); clear HB; have HB := n0_; clear n0_; (try clear hb); (try clear hb2); (try clear hk); (try clear hi)))
                            go_meet
                            case rel => exact ⟨_, (true), (by first | rfl | (simp; done) | (simp [*]; done)), H', ⟨by have := HJ4.out; have := HJ11.out; first | omega | exact Nat.le_refl _⟩, ⟨by repeat (first | (with_reducible first | exact HB.out | apply below_alloc | apply pw_below_drewN | apply below_drew1) | exact HB.out)⟩⟩
                          · replace c46 := Bool.eq_false_iff.mpr c46
                            subst c46
                            have H1 : ((schema_Float.f kj11 ((⟨#[43, 45]⟩ : ByteArray) ++ t157)).bind fun t165 => (scholiumlaw08_SchemaSigns.j2 kj11 t157 t165)) = some r := by rw [if_neg (show ¬ (false = true) by decide)] at H; exact H
                            clear H
                            have H := H1
                            clear H1
                            replace H := Option.bind_eq_some_iff.mp H
                            obtain ⟨t165, A540, H⟩ := H
                            replace H : (scholiumlaw08_SchemaSigns.j2 kj11 t157 t165) = some r := H
                            have A54 := Aside0.mk A540
                            clear A540
                            have H' := Aside0.mk H
                            clear H
                            go_wp2_with (first | ((with_reducible refine gate_callee (f := 17) rfl ?_); refine goesL_ (some 42) rfl rfl Try.func17 (by kernel_rfl) rfl #[.string t157] rfl (by (try simp only [List.map_toArray, List.map_cons, List.map_nil]); first | done | rfl | (simp only [List.length_drop, List.length_take]; rfl)) ?_; (with_reducible refine (schema_Int.calls t157 t158 _ A22.out).mono ?_); rintro e w55 ⟨rfl, hb⟩; refine ⟨_, rfl, ?_⟩; have n0_ := Aside0.mk (below_step (by repeat (first | (with_reducible first | exact HB.out | apply below_alloc | apply pw_below_drewN | apply below_drew1) | exact HB.out)) hb); clear HB; have HB := n0_; clear n0_; (try clear hb); (try clear hb2); (try clear hk); (try clear hi)) | ((with_reducible refine gate_callee (f := 17) rfl ?_); refine goesL_ (some 45) rfl rfl Try.func17 (by kernel_rfl) rfl #[.string ((⟨#[45]⟩ : ByteArray) ++ t157)] rfl (by (try simp only [List.map_toArray, List.map_cons, List.map_nil]); first | done | rfl | (simp only [List.length_drop, List.length_take]; rfl)) ?_; (with_reducible refine (schema_Int.calls ((⟨#[45]⟩ : ByteArray) ++ t157) t159 _ A24.out).mono ?_); rintro e w56 ⟨rfl, hb⟩; refine ⟨_, rfl, ?_⟩; have n0_ := Aside0.mk (below_step (by repeat (first | (with_reducible first | exact HB.out | apply below_alloc | apply pw_below_drewN | apply below_drew1) | exact HB.out)) hb); clear HB; have HB := n0_; clear n0_; (try clear hb); (try clear hb2); (try clear hk); (try clear hi)) | (go_at_call 17; (with_reducible refine (schema_Int.calls t157 t160 _ A28.out).mono ?_); rintro e w57 ⟨rfl, hb⟩; have n0_ := Aside0.mk (below_step (by repeat (first | (with_reducible first | exact HB.out | apply below_alloc | apply pw_below_drewN | apply below_drew1) | exact HB.out)) hb); clear HB; have HB := n0_; clear n0_; (try clear hb); (try clear hb2); (try clear hk); (try clear hi)) | (go_at_call 17; (with_reducible refine (schema_Int.calls ((⟨#[43]⟩ : ByteArray) ++ t157) t161 _ A29.out).mono ?_); rintro e w58 ⟨rfl, hb⟩; have n0_ := Aside0.mk (below_step (by repeat (first | (with_reducible first | exact HB.out | apply below_alloc | apply pw_below_drewN | apply below_drew1) | exact HB.out)) hb); clear HB; have HB := n0_; clear n0_; (try clear hb); (try clear hb2); (try clear hk); (try clear hi)) | (go_at_call 18; (with_reducible refine (schema_Float.calls kj11 t157 t162 _ A35.out).mono ?_); rintro e w59 ⟨rfl, hb⟩; have n0_ := Aside0.mk (below_step (by repeat (first | (with_reducible first | exact HB.out | apply below_alloc | apply pw_below_drewN | apply below_drew1) | exact HB.out)) hb); clear HB; have HB := n0_; clear n0_; (try clear hb); (try clear hb2); (try clear hk); (try clear hi)) | (go_at_call 18; (with_reducible refine (schema_Float.calls kj11 ((⟨#[45]⟩ : ByteArray) ++ t157) t163 _ A36.out).mono ?_); rintro e w60 ⟨rfl, hb⟩; have n0_ := Aside0.mk (below_step (by repeat (first | (with_reducible first | exact HB.out | apply below_alloc | apply pw_below_drewN | apply below_drew1) | exact HB.out)) hb); clear HB; have HB := n0_; clear n0_; (try clear hb); (try clear hb2); (try clear hk); (try clear hi)) | (go_at_call 17; (with_reducible refine (schema_Int.calls ((⟨#[45, 45]⟩ : ByteArray) ++ t157) false _ A45.out).mono ?_); rintro e w61 ⟨rfl, hb⟩; have n0_ := Aside0.mk (below_step (by repeat (first | (with_reducible first | exact HB.out | apply below_alloc | apply pw_below_drewN | apply below_drew1) | exact HB.out)) hb); clear HB; have HB := n0_; clear n0_; (try clear hb); (try clear hb2); (try clear hk); (try clear hi)) | (go_at_call 18; (with_reducible refine (schema_Float.calls kj11 ((⟨#[43, 45]⟩ : ByteArray) ++ t157) t165 _ A54.out).mono ?_); rintro e w62 ⟨rfl, hb⟩; have n0_ := Aside0.mk (below_step (by repeat (first | (with_reducible first | exact HB.out | apply below_alloc | apply pw_below_drewN | apply below_drew1) | exact HB.out)) hb); clear HB; have HB := n0_; clear n0_; (try clear hb); (try clear hb2); (try clear hk); (try clear hi)))
                            go_meet
                            case rel => exact ⟨_, (t165), (by first | rfl | (simp; done) | (simp [*]; done)), H', ⟨by have := HJ4.out; have := HJ11.out; first | omega | exact Nat.le_refl _⟩, ⟨by repeat (first | (with_reducible first | exact HB.out | apply below_alloc | apply pw_below_drewN | apply below_drew1) | exact HB.out)⟩⟩
                        · rw [if_neg c44] at H
                          exact absurd H (by simp)
                · rw [if_neg c23] at H
                  exact absurd H (by simp)
              case rest =>
                clear HC21
                try clear c1
                try clear p1
                try clear q1
                try clear hx1
                try clear qi1
                try clear c2
                try clear p2
                try clear c3
                try clear c4
                try clear c6
                try clear c7
                try clear c7b0
                try clear c7b1
                try clear c8
                try clear c8b0
                try clear c8b1
                try clear p9
                try clear q9
                try clear hx9
                try clear qi9
                try clear c10
                try clear c10b0
                try clear p11
                try clear q11
                try clear hx11
                try clear qi11
                try clear c13
                try clear c14
                try clear c14b0
                try clear c14b1
                try clear c15
                try clear c15b0
                try clear c15b1
                try clear p16
                try clear q16
                try clear hx16
                try clear qi16
                try clear c17
                try clear c17b0
                try clear c17b1
                try clear p18
                try clear q18
                try clear hx18
                try clear qi18
                try clear c20
                try clear c23
                try clear c23b0
                try clear c23b1
                try clear c23b2
                try clear c25
                try clear c25b0
                try clear c25b1
                try clear c25b2
                try clear c30
                try clear c30b0
                try clear c30b1
                try clear c30b2
                try clear c37
                try clear c37b0
                try clear c37b1
                try clear c37b2
                try clear c44
                try clear c44b0
                try clear c44b1
                try clear c44b2
                try clear c46
                try clear p1
                try clear p11
                try clear p16
                try clear p18
                try clear p2
                try clear p9
                try clear q1
                try clear q11
                try clear q16
                try clear q18
                try clear q9
                obtain ⟨kq, x72_20, rfl, HA, HJ20, HB⟩ := hcut
                cases kq with
                | zero => exact absurd HA.out (by simp [scholiumlaw08_SchemaSigns.j2])
                | succ kj20 =>
                  have H := HA.out
                  clear HA
                  simp only [scholiumlaw08_SchemaSigns.j2] at H
                  by_cases c63 : x72_20 = true
                  · subst c63
                    have H1 : (some false) = some r := by rw [if_pos rfl] at H; exact H
                    clear H
                    have H := H1
                    clear H1
                    obtain rfl := Option.some.inj H
                    go_wp2
                    go_ret
                    exact ⟨by first | rfl | (simp [errW_none, errW_some] <;> rfl) | (simp [*, errW_none, errW_some] <;> rfl), by repeat (first | (with_reducible first | exact HB.out | apply below_alloc | apply pw_below_drewN | apply below_drew1) | exact HB.out)⟩
                  · replace c63 := Bool.eq_false_iff.mpr c63
                    subst c63
                    have H1 : ((schema_Int.f t157).bind fun t166 => (if t166 = true then ((schema_Float.f kj20 t157).bind fun t167 => (if t167 = true then (scholiumlaw08_SchemaSigns.j3 kj20 t157) else (some false))) else (scholiumlaw08_SchemaSigns.j3 kj20 t157))) = some r := by rw [if_neg (show ¬ (false = true) by decide)] at H; exact H
                    clear H
                    have H := H1
                    clear H1
                    replace H := Option.bind_eq_some_iff.mp H
                    obtain ⟨t166, A640, H⟩ := H
                    replace H : (if t166 = true then ((schema_Float.f kj20 t157).bind fun t167 => (if t167 = true then (scholiumlaw08_SchemaSigns.j3 kj20 t157) else (some false))) else (scholiumlaw08_SchemaSigns.j3 kj20 t157)) = some r := H
                    have A64 := Aside0.mk A640
                    clear A640
                    by_cases c65 : t166 = true
                    · subst c65
                      have H1 : ((schema_Float.f kj20 t157).bind fun t167 => (if t167 = true then (scholiumlaw08_SchemaSigns.j3 kj20 t157) else (some false))) = some r := by rw [if_pos rfl] at H; exact H
                      clear H
                      have H := H1
                      clear H1
                      replace H := Option.bind_eq_some_iff.mp H
                      obtain ⟨t167, A660, H⟩ := H
                      replace H : (if t167 = true then (scholiumlaw08_SchemaSigns.j3 kj20 t157) else (some false)) = some r := H
                      have A66 := Aside0.mk A660
                      clear A660
                      by_cases c67 : t167 = true
                      · subst c67
                        have H1 : (scholiumlaw08_SchemaSigns.j3 kj20 t157) = some r := by rw [if_pos rfl] at H; exact H
                        clear H
                        have H := H1
                        clear H1
                        have H' := Aside0.mk H
                        clear H
                        go_wp2_with (first | ((with_reducible refine gate_callee (f := 17) rfl ?_); refine goesL_ (some 74) rfl rfl Try.func17 (by kernel_rfl) rfl #[.string t157] rfl (by (try simp only [List.map_toArray, List.map_cons, List.map_nil]); first | done | rfl | (simp only [List.length_drop, List.length_take]; rfl)) ?_; (with_reducible refine (schema_Int.calls t157 true _ A64.out).mono ?_); rintro e w68 ⟨rfl, hb⟩; refine ⟨_, rfl, ?_⟩; have n0_ := Aside0.mk (below_step (by repeat (first | (with_reducible first | exact HB.out | apply below_alloc | apply pw_below_drewN | apply below_drew1) | exact HB.out)) hb); clear HB; have HB := n0_; clear n0_; (try clear hb); (try clear hb2); (try clear hk); (try clear hi)) | (go_at_call 18; (with_reducible refine (schema_Float.calls kj20 t157 true _ A66.out).mono ?_); rintro e w69 ⟨rfl, hb⟩; have n0_ := Aside0.mk (below_step (by repeat (first | (with_reducible first | exact HB.out | apply below_alloc | apply pw_below_drewN | apply below_drew1) | exact HB.out)) hb); clear HB; have HB := n0_; clear n0_; (try clear hb); (try clear hb2); (try clear hk); (try clear hi)))
                        go_meet
                        case rel => exact ⟨_, H', ⟨by have := HJ4.out; have := HJ11.out; have := HJ20.out; first | omega | exact Nat.le_refl _⟩, ⟨by repeat (first | (with_reducible first | exact HB.out | apply below_alloc | apply pw_below_drewN | apply below_drew1) | exact HB.out)⟩⟩
                      · replace c67 := Bool.eq_false_iff.mpr c67
                        subst c67
                        have H1 : (some false) = some r := by rw [if_neg (show ¬ (false = true) by decide)] at H; exact H
                        clear H
                        have H := H1
                        clear H1
                        obtain rfl := Option.some.inj H
                        go_wp2_with (first | ((with_reducible refine gate_callee (f := 17) rfl ?_); refine goesL_ (some 74) rfl rfl Try.func17 (by kernel_rfl) rfl #[.string t157] rfl (by (try simp only [List.map_toArray, List.map_cons, List.map_nil]); first | done | rfl | (simp only [List.length_drop, List.length_take]; rfl)) ?_; (with_reducible refine (schema_Int.calls t157 true _ A64.out).mono ?_); rintro e w70 ⟨rfl, hb⟩; refine ⟨_, rfl, ?_⟩; have n0_ := Aside0.mk (below_step (by repeat (first | (with_reducible first | exact HB.out | apply below_alloc | apply pw_below_drewN | apply below_drew1) | exact HB.out)) hb); clear HB; have HB := n0_; clear n0_; (try clear hb); (try clear hb2); (try clear hk); (try clear hi)) | (go_at_call 18; (with_reducible refine (schema_Float.calls kj20 t157 false _ A66.out).mono ?_); rintro e w71 ⟨rfl, hb⟩; have n0_ := Aside0.mk (below_step (by repeat (first | (with_reducible first | exact HB.out | apply below_alloc | apply pw_below_drewN | apply below_drew1) | exact HB.out)) hb); clear HB; have HB := n0_; clear n0_; (try clear hb); (try clear hb2); (try clear hk); (try clear hi)))
                        go_ret
                        exact ⟨by first | rfl | (simp [errW_none, errW_some] <;> rfl) | (simp [*, errW_none, errW_some] <;> rfl), by repeat (first | (with_reducible first | exact HB.out | apply below_alloc | apply pw_below_drewN | apply below_drew1) | exact HB.out)⟩
                    · replace c65 := Bool.eq_false_iff.mpr c65
                      subst c65
                      have H1 : (scholiumlaw08_SchemaSigns.j3 kj20 t157) = some r := by rw [if_neg (show ¬ (false = true) by decide)] at H; exact H
                      clear H
                      have H := H1
                      clear H1
                      have H' := Aside0.mk H
                      clear H
                      go_wp2_with (first | ((with_reducible refine gate_callee (f := 17) rfl ?_); refine goesL_ (some 74) rfl rfl Try.func17 (by kernel_rfl) rfl #[.string t157] rfl (by (try simp only [List.map_toArray, List.map_cons, List.map_nil]); first | done | rfl | (simp only [List.length_drop, List.length_take]; rfl)) ?_; (with_reducible refine (schema_Int.calls t157 false _ A64.out).mono ?_); rintro e w72 ⟨rfl, hb⟩; refine ⟨_, rfl, ?_⟩; have n0_ := Aside0.mk (below_step (by repeat (first | (with_reducible first | exact HB.out | apply below_alloc | apply pw_below_drewN | apply below_drew1) | exact HB.out)) hb); clear HB; have HB := n0_; clear n0_; (try clear hb); (try clear hb2); (try clear hk); (try clear hi)))
                      go_meet
                      case rel => exact ⟨_, H', ⟨by have := HJ4.out; have := HJ11.out; have := HJ20.out; first | omega | exact Nat.le_refl _⟩, ⟨by repeat (first | (with_reducible first | exact HB.out | apply below_alloc | apply pw_below_drewN | apply below_drew1) | exact HB.out)⟩⟩
            · replace c20 := Bool.eq_false_iff.mpr c20
              subst c20
              have H1 : (scholiumlaw08_SchemaSigns.j3 kj11 t157) = some r := by rw [if_neg (show ¬ (false = true) by decide)] at H; exact H
              clear H
              have H := H1
              clear H1
              have H' := Aside0.mk H
              clear H
              go_wp2
              go_meet
              case rel => exact ⟨_, H', ⟨by have := HJ4.out; have := HJ11.out; first | omega | exact Nat.le_refl _⟩, ⟨by repeat (first | (with_reducible first | exact HB.out | apply below_alloc | apply pw_below_drewN | apply below_drew1) | exact HB.out)⟩⟩
          case rest =>
            clear HC19
            try clear c1
            try clear p1
            try clear q1
            try clear hx1
            try clear qi1
            try clear c2
            try clear p2
            try clear c3
            try clear c4
            try clear c6
            try clear c7
            try clear c7b0
            try clear c7b1
            try clear c8
            try clear c8b0
            try clear c8b1
            try clear p9
            try clear q9
            try clear hx9
            try clear qi9
            try clear c10
            try clear c10b0
            try clear p11
            try clear q11
            try clear hx11
            try clear qi11
            try clear c13
            try clear c14
            try clear c14b0
            try clear c14b1
            try clear c15
            try clear c15b0
            try clear c15b1
            try clear p16
            try clear q16
            try clear hx16
            try clear qi16
            try clear c17
            try clear c17b0
            try clear c17b1
            try clear p18
            try clear q18
            try clear hx18
            try clear qi18
            try clear c20
            try clear c23
            try clear c23b0
            try clear c23b1
            try clear c23b2
            try clear c25
            try clear c25b0
            try clear c25b1
            try clear c25b2
            try clear c30
            try clear c30b0
            try clear c30b1
            try clear c30b2
            try clear c37
            try clear c37b0
            try clear c37b1
            try clear c37b2
            try clear c44
            try clear c44b0
            try clear c44b1
            try clear c44b2
            try clear c46
            try clear c63
            try clear c65
            try clear c67
            try clear p1
            try clear p11
            try clear p16
            try clear p18
            try clear p2
            try clear p9
            try clear q1
            try clear q11
            try clear q16
            try clear q18
            try clear q9
            obtain ⟨kq, HA, HJ18, HB⟩ := hcut
            cases kq with
            | zero => exact absurd HA.out (by simp [scholiumlaw08_SchemaSigns.j3])
            | succ kj18 =>
              have H := HA.out
              clear HA
              simp only [scholiumlaw08_SchemaSigns.j3] at H
              replace H := Option.bind_eq_some_iff.mp H
              obtain ⟨t168, A730, H⟩ := H
              replace H : (if t168 = true then (if t157.toList = ([] : List UInt8) then (if t157.size + 1 ≤ 9223372036854775807 then ((schema_Bool.f kj18 (t157 ++ (⟨#[32]⟩ : ByteArray))).bind fun t169 => (if t169 = true then (some false) else ((schema_Null.f kj18 (t157 ++ (⟨#[32]⟩ : ByteArray))).bind fun t170 => (if t170 = true then (some false) else ((schema_Int.f (t157 ++ (⟨#[32]⟩ : ByteArray))).bind fun t171 => (if t171 = true then (some false) else (if 1 + t157.size ≤ 9223372036854775807 then ((schema_Float.f kj18 ((⟨#[32]⟩ : ByteArray) ++ t157)).bind fun t172 => (if t172 = true then (some false) else ((scholiumlaw08_wakes.f kj18).bind fun t173 => (some t173)))) else (none)))))))) else (none)) else (if t157.size + 1 ≤ 9223372036854775807 then ((schema_Null.f kj18 (t157 ++ (⟨#[120]⟩ : ByteArray))).bind fun t174 => (if t174 = true then (some false) else ((schema_Bool.f kj18 (t157 ++ (⟨#[32]⟩ : ByteArray))).bind fun t175 => (if t175 = true then (some false) else ((schema_Null.f kj18 (t157 ++ (⟨#[32]⟩ : ByteArray))).bind fun t176 => (if t176 = true then (some false) else ((schema_Int.f (t157 ++ (⟨#[32]⟩ : ByteArray))).bind fun t177 => (if t177 = true then (some false) else (if 1 + t157.size ≤ 9223372036854775807 then ((schema_Float.f kj18 ((⟨#[32]⟩ : ByteArray) ++ t157)).bind fun t178 => (if t178 = true then (some false) else ((scholiumlaw08_wakes.f kj18).bind fun t179 => (some t179)))) else (none)))))))))) else (none))) else (if t157.size + 1 ≤ 9223372036854775807 then ((schema_Bool.f kj18 (t157 ++ (⟨#[32]⟩ : ByteArray))).bind fun t180 => (if t180 = true then (some false) else ((schema_Null.f kj18 (t157 ++ (⟨#[32]⟩ : ByteArray))).bind fun t181 => (if t181 = true then (some false) else ((schema_Int.f (t157 ++ (⟨#[32]⟩ : ByteArray))).bind fun t182 => (if t182 = true then (some false) else (if 1 + t157.size ≤ 9223372036854775807 then ((schema_Float.f kj18 ((⟨#[32]⟩ : ByteArray) ++ t157)).bind fun t183 => (if t183 = true then (some false) else ((scholiumlaw08_wakes.f kj18).bind fun t184 => (some t184)))) else (none)))))))) else (none))) = some r := H
              have A73 := Aside0.mk A730
              clear A730
              by_cases c74 : t168 = true
              · subst c74
                have H1 : (if t157.toList = ([] : List UInt8) then (if t157.size + 1 ≤ 9223372036854775807 then ((schema_Bool.f kj18 (t157 ++ (⟨#[32]⟩ : ByteArray))).bind fun t169 => (if t169 = true then (some false) else ((schema_Null.f kj18 (t157 ++ (⟨#[32]⟩ : ByteArray))).bind fun t170 => (if t170 = true then (some false) else ((schema_Int.f (t157 ++ (⟨#[32]⟩ : ByteArray))).bind fun t171 => (if t171 = true then (some false) else (if 1 + t157.size ≤ 9223372036854775807 then ((schema_Float.f kj18 ((⟨#[32]⟩ : ByteArray) ++ t157)).bind fun t172 => (if t172 = true then (some false) else ((scholiumlaw08_wakes.f kj18).bind fun t173 => (some t173)))) else (none)))))))) else (none)) else (if t157.size + 1 ≤ 9223372036854775807 then ((schema_Null.f kj18 (t157 ++ (⟨#[120]⟩ : ByteArray))).bind fun t174 => (if t174 = true then (some false) else ((schema_Bool.f kj18 (t157 ++ (⟨#[32]⟩ : ByteArray))).bind fun t175 => (if t175 = true then (some false) else ((schema_Null.f kj18 (t157 ++ (⟨#[32]⟩ : ByteArray))).bind fun t176 => (if t176 = true then (some false) else ((schema_Int.f (t157 ++ (⟨#[32]⟩ : ByteArray))).bind fun t177 => (if t177 = true then (some false) else (if 1 + t157.size ≤ 9223372036854775807 then ((schema_Float.f kj18 ((⟨#[32]⟩ : ByteArray) ++ t157)).bind fun t178 => (if t178 = true then (some false) else ((scholiumlaw08_wakes.f kj18).bind fun t179 => (some t179)))) else (none)))))))))) else (none))) = some r := by rw [if_pos rfl] at H; exact H
                clear H
                have H := H1
                clear H1
                by_cases c75 : t157.toList = ([] : List UInt8)
                · rw [if_pos c75] at H
                  have c75b0 : (t157.toList == ([] : List UInt8)) = true := beq_iff_eq.mpr c75
                  have c75b1 : (t157.toList != ([] : List UInt8)) = false := bne_eq_false_iff_eq.mpr c75
                  clear c75
                  by_cases c76 : t157.size + 1 ≤ 9223372036854775807
                  · rw [if_pos c76] at H
                    have c76b0 := eq_true c76
                    have c76b1 : decide (t157.size + 1 ≤ 9223372036854775807) = true := decide_eq_true c76
                    try have c76b2 : (9223372036854775807 < t157.size + 1) = False := eq_false (Nat.not_lt.2 c76)
                    replace H := Option.bind_eq_some_iff.mp H
                    obtain ⟨t169, A770, H⟩ := H
                    replace H : (if t169 = true then (some false) else ((schema_Null.f kj18 (t157 ++ (⟨#[32]⟩ : ByteArray))).bind fun t170 => (if t170 = true then (some false) else ((schema_Int.f (t157 ++ (⟨#[32]⟩ : ByteArray))).bind fun t171 => (if t171 = true then (some false) else (if 1 + t157.size ≤ 9223372036854775807 then ((schema_Float.f kj18 ((⟨#[32]⟩ : ByteArray) ++ t157)).bind fun t172 => (if t172 = true then (some false) else ((scholiumlaw08_wakes.f kj18).bind fun t173 => (some t173)))) else (none))))))) = some r := H
                    have A77 := Aside0.mk A770
                    clear A770
                    by_cases c78 : t169 = true
                    · subst c78
                      have H1 : (some false) = some r := by rw [if_pos rfl] at H; exact H
                      clear H
                      have H := H1
                      clear H1
                      obtain rfl := Option.some.inj H
                      go_wp2_with (first | ((with_reducible refine gate_callee (f := 15) rfl ?_); refine goesL_ (some 81) rfl rfl Try.func15 (by kernel_rfl) rfl #[.string t157] rfl (by (try simp only [List.map_toArray, List.map_cons, List.map_nil]); first | done | rfl | (simp only [List.length_drop, List.length_take]; rfl)) ?_; (with_reducible refine (schema_Null.calls kj18 t157 true _ A73.out).mono ?_); rintro e w79 ⟨rfl, hb⟩; refine ⟨_, rfl, ?_⟩; have n0_ := Aside0.mk (below_step (by repeat (first | (with_reducible first | exact HB.out | apply below_alloc | apply pw_below_drewN | apply below_drew1) | exact HB.out)) hb); clear HB; have HB := n0_; clear n0_; (try clear hb); (try clear hb2); (try clear hk); (try clear hi)) | (go_at_call 16; (with_reducible refine (schema_Bool.calls kj18 (t157 ++ (⟨#[32]⟩ : ByteArray)) true _ A77.out).mono ?_); rintro e w80 ⟨rfl, hb⟩; have n0_ := Aside0.mk (below_step (by repeat (first | (with_reducible first | exact HB.out | apply below_alloc | apply pw_below_drewN | apply below_drew1) | exact HB.out)) hb); clear HB; have HB := n0_; clear n0_; (try clear hb); (try clear hb2); (try clear hk); (try clear hi)))
                      go_ret
                      exact ⟨by first | rfl | (simp [errW_none, errW_some] <;> rfl) | (simp [*, errW_none, errW_some] <;> rfl), by repeat (first | (with_reducible first | exact HB.out | apply below_alloc | apply pw_below_drewN | apply below_drew1) | exact HB.out)⟩
                    · replace c78 := Bool.eq_false_iff.mpr c78
                      subst c78
                      have H1 : ((schema_Null.f kj18 (t157 ++ (⟨#[32]⟩ : ByteArray))).bind fun t170 => (if t170 = true then (some false) else ((schema_Int.f (t157 ++ (⟨#[32]⟩ : ByteArray))).bind fun t171 => (if t171 = true then (some false) else (if 1 + t157.size ≤ 9223372036854775807 then ((schema_Float.f kj18 ((⟨#[32]⟩ : ByteArray) ++ t157)).bind fun t172 => (if t172 = true then (some false) else ((scholiumlaw08_wakes.f kj18).bind fun t173 => (some t173)))) else (none)))))) = some r := by rw [if_neg (show ¬ (false = true) by decide)] at H; exact H
                      clear H
                      have H := H1
                      clear H1
                      replace H := Option.bind_eq_some_iff.mp H
                      obtain ⟨t170, A810, H⟩ := H
                      replace H : (if t170 = true then (some false) else ((schema_Int.f (t157 ++ (⟨#[32]⟩ : ByteArray))).bind fun t171 => (if t171 = true then (some false) else (if 1 + t157.size ≤ 9223372036854775807 then ((schema_Float.f kj18 ((⟨#[32]⟩ : ByteArray) ++ t157)).bind fun t172 => (if t172 = true then (some false) else ((scholiumlaw08_wakes.f kj18).bind fun t173 => (some t173)))) else (none))))) = some r := H
                      have A81 := Aside0.mk A810
                      clear A810
                      by_cases c82 : t170 = true
                      · subst c82
                        have H1 : (some false) = some r := by rw [if_pos rfl] at H; exact H
                        clear H
                        have H := H1
                        clear H1
                        obtain rfl := Option.some.inj H
                        go_wp2_with (first | ((with_reducible refine gate_callee (f := 15) rfl ?_); refine goesL_ (some 81) rfl rfl Try.func15 (by kernel_rfl) rfl #[.string t157] rfl (by (try simp only [List.map_toArray, List.map_cons, List.map_nil]); first | done | rfl | (simp only [List.length_drop, List.length_take]; rfl)) ?_; (with_reducible refine (schema_Null.calls kj18 t157 true _ A73.out).mono ?_); rintro e w83 ⟨rfl, hb⟩; refine ⟨_, rfl, ?_⟩; have n0_ := Aside0.mk (below_step (by repeat (first | (with_reducible first | exact HB.out | apply below_alloc | apply pw_below_drewN | apply below_drew1) | exact HB.out)) hb); clear HB; have HB := n0_; clear n0_; (try clear hb); (try clear hb2); (try clear hk); (try clear hi)) | (go_at_call 16; (with_reducible refine (schema_Bool.calls kj18 (t157 ++ (⟨#[32]⟩ : ByteArray)) false _ A77.out).mono ?_); rintro e w84 ⟨rfl, hb⟩; have n0_ := Aside0.mk (below_step (by repeat (first | (with_reducible first | exact HB.out | apply below_alloc | apply pw_below_drewN | apply below_drew1) | exact HB.out)) hb); clear HB; have HB := n0_; clear n0_; (try clear hb); (try clear hb2); (try clear hk); (try clear hi)) | (go_at_call 15; (with_reducible refine (schema_Null.calls kj18 (t157 ++ (⟨#[32]⟩ : ByteArray)) true _ A81.out).mono ?_); rintro e w85 ⟨rfl, hb⟩; have n0_ := Aside0.mk (below_step (by repeat (first | (with_reducible first | exact HB.out | apply below_alloc | apply pw_below_drewN | apply below_drew1) | exact HB.out)) hb); clear HB; have HB := n0_; clear n0_; (try clear hb); (try clear hb2); (try clear hk); (try clear hi)))
                        go_ret
                        exact ⟨by first | rfl | (simp [errW_none, errW_some] <;> rfl) | (simp [*, errW_none, errW_some] <;> rfl), by repeat (first | (with_reducible first | exact HB.out | apply below_alloc | apply pw_below_drewN | apply below_drew1) | exact HB.out)⟩
                      · replace c82 := Bool.eq_false_iff.mpr c82
                        subst c82
                        have H1 : ((schema_Int.f (t157 ++ (⟨#[32]⟩ : ByteArray))).bind fun t171 => (if t171 = true then (some false) else (if 1 + t157.size ≤ 9223372036854775807 then ((schema_Float.f kj18 ((⟨#[32]⟩ : ByteArray) ++ t157)).bind fun t172 => (if t172 = true then (some false) else ((scholiumlaw08_wakes.f kj18).bind fun t173 => (some t173)))) else (none)))) = some r := by rw [if_neg (show ¬ (false = true) by decide)] at H; exact H
                        clear H
                        have H := H1
                        clear H1
                        replace H := Option.bind_eq_some_iff.mp H
                        obtain ⟨t171, A860, H⟩ := H
                        replace H : (if t171 = true then (some false) else (if 1 + t157.size ≤ 9223372036854775807 then ((schema_Float.f kj18 ((⟨#[32]⟩ : ByteArray) ++ t157)).bind fun t172 => (if t172 = true then (some false) else ((scholiumlaw08_wakes.f kj18).bind fun t173 => (some t173)))) else (none))) = some r := H
                        have A86 := Aside0.mk A860
                        clear A860
                        by_cases c87 : t171 = true
                        · subst c87
                          have H1 : (some false) = some r := by rw [if_pos rfl] at H; exact H
                          clear H
                          have H := H1
                          clear H1
                          obtain rfl := Option.some.inj H
                          go_wp2_with (first | ((with_reducible refine gate_callee (f := 15) rfl ?_); refine goesL_ (some 81) rfl rfl Try.func15 (by kernel_rfl) rfl #[.string t157] rfl (by (try simp only [List.map_toArray, List.map_cons, List.map_nil]); first | done | rfl | (simp only [List.length_drop, List.length_take]; rfl)) ?_; (with_reducible refine (schema_Null.calls kj18 t157 true _ A73.out).mono ?_); rintro e w88 ⟨rfl, hb⟩; refine ⟨_, rfl, ?_⟩; have n0_ := Aside0.mk (below_step (by repeat (first | (with_reducible first | exact HB.out | apply below_alloc | apply pw_below_drewN | apply below_drew1) | exact HB.out)) hb); clear HB; have HB := n0_; clear n0_; (try clear hb); (try clear hb2); (try clear hk); (try clear hi)) | (go_at_call 16; (with_reducible refine (schema_Bool.calls kj18 (t157 ++ (⟨#[32]⟩ : ByteArray)) false _ A77.out).mono ?_); rintro e w89 ⟨rfl, hb⟩; have n0_ := Aside0.mk (below_step (by repeat (first | (with_reducible first | exact HB.out | apply below_alloc | apply pw_below_drewN | apply below_drew1) | exact HB.out)) hb); clear HB; have HB := n0_; clear n0_; (try clear hb); (try clear hb2); (try clear hk); (try clear hi)) | (go_at_call 15; (with_reducible refine (schema_Null.calls kj18 (t157 ++ (⟨#[32]⟩ : ByteArray)) false _ A81.out).mono ?_); rintro e w90 ⟨rfl, hb⟩; have n0_ := Aside0.mk (below_step (by repeat (first | (with_reducible first | exact HB.out | apply below_alloc | apply pw_below_drewN | apply below_drew1) | exact HB.out)) hb); clear HB; have HB := n0_; clear n0_; (try clear hb); (try clear hb2); (try clear hk); (try clear hi)) | (go_at_call 17; (with_reducible refine (schema_Int.calls (t157 ++ (⟨#[32]⟩ : ByteArray)) true _ A86.out).mono ?_); rintro e w91 ⟨rfl, hb⟩; have n0_ := Aside0.mk (below_step (by repeat (first | (with_reducible first | exact HB.out | apply below_alloc | apply pw_below_drewN | apply below_drew1) | exact HB.out)) hb); clear HB; have HB := n0_; clear n0_; (try clear hb); (try clear hb2); (try clear hk); (try clear hi)))
                          go_ret
                          exact ⟨by first | rfl | (simp [errW_none, errW_some] <;> rfl) | (simp [*, errW_none, errW_some] <;> rfl), by repeat (first | (with_reducible first | exact HB.out | apply below_alloc | apply pw_below_drewN | apply below_drew1) | exact HB.out)⟩
                        · replace c87 := Bool.eq_false_iff.mpr c87
                          subst c87
                          have H1 : (if 1 + t157.size ≤ 9223372036854775807 then ((schema_Float.f kj18 ((⟨#[32]⟩ : ByteArray) ++ t157)).bind fun t172 => (if t172 = true then (some false) else ((scholiumlaw08_wakes.f kj18).bind fun t173 => (some t173)))) else (none)) = some r := by rw [if_neg (show ¬ (false = true) by decide)] at H; exact H
                          clear H
                          have H := H1
                          clear H1
                          by_cases c92 : 1 + t157.size ≤ 9223372036854775807
                          · rw [if_pos c92] at H
                            have c92b0 := eq_true c92
                            have c92b1 : decide (1 + t157.size ≤ 9223372036854775807) = true := decide_eq_true c92
                            try have c92b2 : (9223372036854775807 < 1 + t157.size) = False := eq_false (Nat.not_lt.2 c92)
                            replace H := Option.bind_eq_some_iff.mp H
                            obtain ⟨t172, A930, H⟩ := H
                            replace H : (if t172 = true then (some false) else ((scholiumlaw08_wakes.f kj18).bind fun t173 => (some t173))) = some r := H
                            have A93 := Aside0.mk A930
                            clear A930
                            by_cases c94 : t172 = true
                            · subst c94
                              have H1 : (some false) = some r := by rw [if_pos rfl] at H; exact H
                              clear H
                              have H := H1
                              clear H1
                              obtain rfl := Option.some.inj H
                              go_wp2_with (first | ((with_reducible refine gate_callee (f := 15) rfl ?_); refine goesL_ (some 81) rfl rfl Try.func15 (by kernel_rfl) rfl #[.string t157] rfl (by (try simp only [List.map_toArray, List.map_cons, List.map_nil]); first | done | rfl | (simp only [List.length_drop, List.length_take]; rfl)) ?_; (with_reducible refine (schema_Null.calls kj18 t157 true _ A73.out).mono ?_); rintro e w95 ⟨rfl, hb⟩; refine ⟨_, rfl, ?_⟩; have n0_ := Aside0.mk (below_step (by repeat (first | (with_reducible first | exact HB.out | apply below_alloc | apply pw_below_drewN | apply below_drew1) | exact HB.out)) hb); clear HB; have HB := n0_; clear n0_; (try clear hb); (try clear hb2); (try clear hk); (try clear hi)) | (go_at_call 16; (with_reducible refine (schema_Bool.calls kj18 (t157 ++ (⟨#[32]⟩ : ByteArray)) false _ A77.out).mono ?_); rintro e w96 ⟨rfl, hb⟩; have n0_ := Aside0.mk (below_step (by repeat (first | (with_reducible first | exact HB.out | apply below_alloc | apply pw_below_drewN | apply below_drew1) | exact HB.out)) hb); clear HB; have HB := n0_; clear n0_; (try clear hb); (try clear hb2); (try clear hk); (try clear hi)) | (go_at_call 15; (with_reducible refine (schema_Null.calls kj18 (t157 ++ (⟨#[32]⟩ : ByteArray)) false _ A81.out).mono ?_); rintro e w97 ⟨rfl, hb⟩; have n0_ := Aside0.mk (below_step (by repeat (first | (with_reducible first | exact HB.out | apply below_alloc | apply pw_below_drewN | apply below_drew1) | exact HB.out)) hb); clear HB; have HB := n0_; clear n0_; (try clear hb); (try clear hb2); (try clear hk); (try clear hi)) | (go_at_call 17; (with_reducible refine (schema_Int.calls (t157 ++ (⟨#[32]⟩ : ByteArray)) false _ A86.out).mono ?_); rintro e w98 ⟨rfl, hb⟩; have n0_ := Aside0.mk (below_step (by repeat (first | (with_reducible first | exact HB.out | apply below_alloc | apply pw_below_drewN | apply below_drew1) | exact HB.out)) hb); clear HB; have HB := n0_; clear n0_; (try clear hb); (try clear hb2); (try clear hk); (try clear hi)) | (go_at_call 18; (with_reducible refine (schema_Float.calls kj18 ((⟨#[32]⟩ : ByteArray) ++ t157) true _ A93.out).mono ?_); rintro e w99 ⟨rfl, hb⟩; have n0_ := Aside0.mk (below_step (by repeat (first | (with_reducible first | exact HB.out | apply below_alloc | apply pw_below_drewN | apply below_drew1) | exact HB.out)) hb); clear HB; have HB := n0_; clear n0_; (try clear hb); (try clear hb2); (try clear hk); (try clear hi)))
                              go_ret
                              exact ⟨by first | rfl | (simp [errW_none, errW_some] <;> rfl) | (simp [*, errW_none, errW_some] <;> rfl), by repeat (first | (with_reducible first | exact HB.out | apply below_alloc | apply pw_below_drewN | apply below_drew1) | exact HB.out)⟩
                            · replace c94 := Bool.eq_false_iff.mpr c94
                              subst c94
                              have H1 : ((scholiumlaw08_wakes.f kj18).bind fun t173 => (some t173)) = some r := by rw [if_neg (show ¬ (false = true) by decide)] at H; exact H
                              clear H
                              have H := H1
                              clear H1
                              replace H := Option.bind_eq_some_iff.mp H
                              obtain ⟨t173, A1000, H⟩ := H
                              replace H : (some t173) = some r := H
                              have A100 := Aside0.mk A1000
                              clear A1000
                              obtain rfl := Option.some.inj H
                              go_wp2_with (first | ((with_reducible refine gate_callee (f := 15) rfl ?_); refine goesL_ (some 81) rfl rfl Try.func15 (by kernel_rfl) rfl #[.string t157] rfl (by (try simp only [List.map_toArray, List.map_cons, List.map_nil]); first | done | rfl | (simp only [List.length_drop, List.length_take]; rfl)) ?_; (with_reducible refine (schema_Null.calls kj18 t157 true _ A73.out).mono ?_); rintro e w101 ⟨rfl, hb⟩; refine ⟨_, rfl, ?_⟩; have n0_ := Aside0.mk (below_step (by repeat (first | (with_reducible first | exact HB.out | apply below_alloc | apply pw_below_drewN | apply below_drew1) | exact HB.out)) hb); clear HB; have HB := n0_; clear n0_; (try clear hb); (try clear hb2); (try clear hk); (try clear hi)) | (go_at_call 16; (with_reducible refine (schema_Bool.calls kj18 (t157 ++ (⟨#[32]⟩ : ByteArray)) false _ A77.out).mono ?_); rintro e w102 ⟨rfl, hb⟩; have n0_ := Aside0.mk (below_step (by repeat (first | (with_reducible first | exact HB.out | apply below_alloc | apply pw_below_drewN | apply below_drew1) | exact HB.out)) hb); clear HB; have HB := n0_; clear n0_; (try clear hb); (try clear hb2); (try clear hk); (try clear hi)) | (go_at_call 15; (with_reducible refine (schema_Null.calls kj18 (t157 ++ (⟨#[32]⟩ : ByteArray)) false _ A81.out).mono ?_); rintro e w103 ⟨rfl, hb⟩; have n0_ := Aside0.mk (below_step (by repeat (first | (with_reducible first | exact HB.out | apply below_alloc | apply pw_below_drewN | apply below_drew1) | exact HB.out)) hb); clear HB; have HB := n0_; clear n0_; (try clear hb); (try clear hb2); (try clear hk); (try clear hi)) | (go_at_call 17; (with_reducible refine (schema_Int.calls (t157 ++ (⟨#[32]⟩ : ByteArray)) false _ A86.out).mono ?_); rintro e w104 ⟨rfl, hb⟩; have n0_ := Aside0.mk (below_step (by repeat (first | (with_reducible first | exact HB.out | apply below_alloc | apply pw_below_drewN | apply below_drew1) | exact HB.out)) hb); clear HB; have HB := n0_; clear n0_; (try clear hb); (try clear hb2); (try clear hk); (try clear hi)) | (go_at_call 18; (with_reducible refine (schema_Float.calls kj18 ((⟨#[32]⟩ : ByteArray) ++ t157) false _ A93.out).mono ?_); rintro e w105 ⟨rfl, hb⟩; have n0_ := Aside0.mk (below_step (by repeat (first | (with_reducible first | exact HB.out | apply below_alloc | apply pw_below_drewN | apply below_drew1) | exact HB.out)) hb); clear HB; have HB := n0_; clear n0_; (try clear hb); (try clear hb2); (try clear hk); (try clear hi)) | (go_at_call 13; (with_reducible refine (scholiumlaw08_wakes.calls kj18  t173 _ A100.out).mono ?_); rintro e w106 ⟨rfl, hb⟩; have n0_ := Aside0.mk (below_step (by repeat (first | (with_reducible first | exact HB.out | apply below_alloc | apply pw_below_drewN | apply below_drew1) | exact HB.out)) hb); clear HB; have HB := n0_; clear n0_; (try clear hb); (try clear hb2); (try clear hk); (try clear hi)))
                              go_ret
                              exact ⟨by first | rfl | (simp [errW_none, errW_some] <;> rfl) | (simp [*, errW_none, errW_some] <;> rfl), by repeat (first | (with_reducible first | exact HB.out | apply below_alloc | apply pw_below_drewN | apply below_drew1) | exact HB.out)⟩
                          · rw [if_neg c92] at H
                            exact absurd H (by simp)
                  · rw [if_neg c76] at H
                    exact absurd H (by simp)
                · rw [if_neg c75] at H
                  have c75b0 : (t157.toList == ([] : List UInt8)) = false := beq_eq_false_iff_ne.mpr c75
                  have c75b1 : (t157.toList != ([] : List UInt8)) = true := bne_iff_ne.mpr c75
                  by_cases c107 : t157.size + 1 ≤ 9223372036854775807
                  · rw [if_pos c107] at H
                    have c107b0 := eq_true c107
                    have c107b1 : decide (t157.size + 1 ≤ 9223372036854775807) = true := decide_eq_true c107
                    try have c107b2 : (9223372036854775807 < t157.size + 1) = False := eq_false (Nat.not_lt.2 c107)
                    replace H := Option.bind_eq_some_iff.mp H
                    obtain ⟨t174, A1080, H⟩ := H
                    replace H : (if t174 = true then (some false) else ((schema_Bool.f kj18 (t157 ++ (⟨#[32]⟩ : ByteArray))).bind fun t175 => (if t175 = true then (some false) else ((schema_Null.f kj18 (t157 ++ (⟨#[32]⟩ : ByteArray))).bind fun t176 => (if t176 = true then (some false) else ((schema_Int.f (t157 ++ (⟨#[32]⟩ : ByteArray))).bind fun t177 => (if t177 = true then (some false) else (if 1 + t157.size ≤ 9223372036854775807 then ((schema_Float.f kj18 ((⟨#[32]⟩ : ByteArray) ++ t157)).bind fun t178 => (if t178 = true then (some false) else ((scholiumlaw08_wakes.f kj18).bind fun t179 => (some t179)))) else (none))))))))) = some r := H
                    have A108 := Aside0.mk A1080
                    clear A1080
                    by_cases c109 : t174 = true
                    · subst c109
                      have H1 : (some false) = some r := by rw [if_pos rfl] at H; exact H
                      clear H
                      have H := H1
                      clear H1
                      obtain rfl := Option.some.inj H
                      go_wp2_with (first | ((with_reducible refine gate_callee (f := 15) rfl ?_); refine goesL_ (some 81) rfl rfl Try.func15 (by kernel_rfl) rfl #[.string t157] rfl (by (try simp only [List.map_toArray, List.map_cons, List.map_nil]); first | done | rfl | (simp only [List.length_drop, List.length_take]; rfl)) ?_; (with_reducible refine (schema_Null.calls kj18 t157 true _ A73.out).mono ?_); rintro e w110 ⟨rfl, hb⟩; refine ⟨_, rfl, ?_⟩; have n0_ := Aside0.mk (below_step (by repeat (first | (with_reducible first | exact HB.out | apply below_alloc | apply pw_below_drewN | apply below_drew1) | exact HB.out)) hb); clear HB; have HB := n0_; clear n0_; (try clear hb); (try clear hb2); (try clear hk); (try clear hi)) | (go_at_call 15; (with_reducible refine (schema_Null.calls kj18 (t157 ++ (⟨#[120]⟩ : ByteArray)) true _ A108.out).mono ?_); rintro e w111 ⟨rfl, hb⟩; have n0_ := Aside0.mk (below_step (by repeat (first | (with_reducible first | exact HB.out | apply below_alloc | apply pw_below_drewN | apply below_drew1) | exact HB.out)) hb); clear HB; have HB := n0_; clear n0_; (try clear hb); (try clear hb2); (try clear hk); (try clear hi)))
                      go_ret
                      exact ⟨by first | rfl | (simp [errW_none, errW_some] <;> rfl) | (simp [*, errW_none, errW_some] <;> rfl), by repeat (first | (with_reducible first | exact HB.out | apply below_alloc | apply pw_below_drewN | apply below_drew1) | exact HB.out)⟩
                    · replace c109 := Bool.eq_false_iff.mpr c109
                      subst c109
                      have H1 : ((schema_Bool.f kj18 (t157 ++ (⟨#[32]⟩ : ByteArray))).bind fun t175 => (if t175 = true then (some false) else ((schema_Null.f kj18 (t157 ++ (⟨#[32]⟩ : ByteArray))).bind fun t176 => (if t176 = true then (some false) else ((schema_Int.f (t157 ++ (⟨#[32]⟩ : ByteArray))).bind fun t177 => (if t177 = true then (some false) else (if 1 + t157.size ≤ 9223372036854775807 then ((schema_Float.f kj18 ((⟨#[32]⟩ : ByteArray) ++ t157)).bind fun t178 => (if t178 = true then (some false) else ((scholiumlaw08_wakes.f kj18).bind fun t179 => (some t179)))) else (none)))))))) = some r := by rw [if_neg (show ¬ (false = true) by decide)] at H; exact H
                      clear H
                      have H := H1
                      clear H1
                      replace H := Option.bind_eq_some_iff.mp H
                      obtain ⟨t175, A1120, H⟩ := H
                      replace H : (if t175 = true then (some false) else ((schema_Null.f kj18 (t157 ++ (⟨#[32]⟩ : ByteArray))).bind fun t176 => (if t176 = true then (some false) else ((schema_Int.f (t157 ++ (⟨#[32]⟩ : ByteArray))).bind fun t177 => (if t177 = true then (some false) else (if 1 + t157.size ≤ 9223372036854775807 then ((schema_Float.f kj18 ((⟨#[32]⟩ : ByteArray) ++ t157)).bind fun t178 => (if t178 = true then (some false) else ((scholiumlaw08_wakes.f kj18).bind fun t179 => (some t179)))) else (none))))))) = some r := H
                      have A112 := Aside0.mk A1120
                      clear A1120
                      by_cases c113 : t175 = true
                      · subst c113
                        have H1 : (some false) = some r := by rw [if_pos rfl] at H; exact H
                        clear H
                        have H := H1
                        clear H1
                        obtain rfl := Option.some.inj H
                        go_wp2_with (first | ((with_reducible refine gate_callee (f := 15) rfl ?_); refine goesL_ (some 81) rfl rfl Try.func15 (by kernel_rfl) rfl #[.string t157] rfl (by (try simp only [List.map_toArray, List.map_cons, List.map_nil]); first | done | rfl | (simp only [List.length_drop, List.length_take]; rfl)) ?_; (with_reducible refine (schema_Null.calls kj18 t157 true _ A73.out).mono ?_); rintro e w114 ⟨rfl, hb⟩; refine ⟨_, rfl, ?_⟩; have n0_ := Aside0.mk (below_step (by repeat (first | (with_reducible first | exact HB.out | apply below_alloc | apply pw_below_drewN | apply below_drew1) | exact HB.out)) hb); clear HB; have HB := n0_; clear n0_; (try clear hb); (try clear hb2); (try clear hk); (try clear hi)) | (go_at_call 15; (with_reducible refine (schema_Null.calls kj18 (t157 ++ (⟨#[120]⟩ : ByteArray)) false _ A108.out).mono ?_); rintro e w115 ⟨rfl, hb⟩; have n0_ := Aside0.mk (below_step (by repeat (first | (with_reducible first | exact HB.out | apply below_alloc | apply pw_below_drewN | apply below_drew1) | exact HB.out)) hb); clear HB; have HB := n0_; clear n0_; (try clear hb); (try clear hb2); (try clear hk); (try clear hi)) | (go_at_call 16; (with_reducible refine (schema_Bool.calls kj18 (t157 ++ (⟨#[32]⟩ : ByteArray)) true _ A112.out).mono ?_); rintro e w116 ⟨rfl, hb⟩; have n0_ := Aside0.mk (below_step (by repeat (first | (with_reducible first | exact HB.out | apply below_alloc | apply pw_below_drewN | apply below_drew1) | exact HB.out)) hb); clear HB; have HB := n0_; clear n0_; (try clear hb); (try clear hb2); (try clear hk); (try clear hi)))
                        go_ret
                        exact ⟨by first | rfl | (simp [errW_none, errW_some] <;> rfl) | (simp [*, errW_none, errW_some] <;> rfl), by repeat (first | (with_reducible first | exact HB.out | apply below_alloc | apply pw_below_drewN | apply below_drew1) | exact HB.out)⟩
                      · replace c113 := Bool.eq_false_iff.mpr c113
                        subst c113
                        have H1 : ((schema_Null.f kj18 (t157 ++ (⟨#[32]⟩ : ByteArray))).bind fun t176 => (if t176 = true then (some false) else ((schema_Int.f (t157 ++ (⟨#[32]⟩ : ByteArray))).bind fun t177 => (if t177 = true then (some false) else (if 1 + t157.size ≤ 9223372036854775807 then ((schema_Float.f kj18 ((⟨#[32]⟩ : ByteArray) ++ t157)).bind fun t178 => (if t178 = true then (some false) else ((scholiumlaw08_wakes.f kj18).bind fun t179 => (some t179)))) else (none)))))) = some r := by rw [if_neg (show ¬ (false = true) by decide)] at H; exact H
                        clear H
                        have H := H1
                        clear H1
                        replace H := Option.bind_eq_some_iff.mp H
                        obtain ⟨t176, A1170, H⟩ := H
                        replace H : (if t176 = true then (some false) else ((schema_Int.f (t157 ++ (⟨#[32]⟩ : ByteArray))).bind fun t177 => (if t177 = true then (some false) else (if 1 + t157.size ≤ 9223372036854775807 then ((schema_Float.f kj18 ((⟨#[32]⟩ : ByteArray) ++ t157)).bind fun t178 => (if t178 = true then (some false) else ((scholiumlaw08_wakes.f kj18).bind fun t179 => (some t179)))) else (none))))) = some r := H
                        have A117 := Aside0.mk A1170
                        clear A1170
                        by_cases c118 : t176 = true
                        · subst c118
                          have H1 : (some false) = some r := by rw [if_pos rfl] at H; exact H
                          clear H
                          have H := H1
                          clear H1
                          obtain rfl := Option.some.inj H
                          go_wp2_with (first | ((with_reducible refine gate_callee (f := 15) rfl ?_); refine goesL_ (some 81) rfl rfl Try.func15 (by kernel_rfl) rfl #[.string t157] rfl (by (try simp only [List.map_toArray, List.map_cons, List.map_nil]); first | done | rfl | (simp only [List.length_drop, List.length_take]; rfl)) ?_; (with_reducible refine (schema_Null.calls kj18 t157 true _ A73.out).mono ?_); rintro e w119 ⟨rfl, hb⟩; refine ⟨_, rfl, ?_⟩; have n0_ := Aside0.mk (below_step (by repeat (first | (with_reducible first | exact HB.out | apply below_alloc | apply pw_below_drewN | apply below_drew1) | exact HB.out)) hb); clear HB; have HB := n0_; clear n0_; (try clear hb); (try clear hb2); (try clear hk); (try clear hi)) | (go_at_call 15; (with_reducible refine (schema_Null.calls kj18 (t157 ++ (⟨#[120]⟩ : ByteArray)) false _ A108.out).mono ?_); rintro e w120 ⟨rfl, hb⟩; have n0_ := Aside0.mk (below_step (by repeat (first | (with_reducible first | exact HB.out | apply below_alloc | apply pw_below_drewN | apply below_drew1) | exact HB.out)) hb); clear HB; have HB := n0_; clear n0_; (try clear hb); (try clear hb2); (try clear hk); (try clear hi)) | (go_at_call 16; (with_reducible refine (schema_Bool.calls kj18 (t157 ++ (⟨#[32]⟩ : ByteArray)) false _ A112.out).mono ?_); rintro e w121 ⟨rfl, hb⟩; have n0_ := Aside0.mk (below_step (by repeat (first | (with_reducible first | exact HB.out | apply below_alloc | apply pw_below_drewN | apply below_drew1) | exact HB.out)) hb); clear HB; have HB := n0_; clear n0_; (try clear hb); (try clear hb2); (try clear hk); (try clear hi)) | (go_at_call 15; (with_reducible refine (schema_Null.calls kj18 (t157 ++ (⟨#[32]⟩ : ByteArray)) true _ A117.out).mono ?_); rintro e w122 ⟨rfl, hb⟩; have n0_ := Aside0.mk (below_step (by repeat (first | (with_reducible first | exact HB.out | apply below_alloc | apply pw_below_drewN | apply below_drew1) | exact HB.out)) hb); clear HB; have HB := n0_; clear n0_; (try clear hb); (try clear hb2); (try clear hk); (try clear hi)))
                          go_ret
                          exact ⟨by first | rfl | (simp [errW_none, errW_some] <;> rfl) | (simp [*, errW_none, errW_some] <;> rfl), by repeat (first | (with_reducible first | exact HB.out | apply below_alloc | apply pw_below_drewN | apply below_drew1) | exact HB.out)⟩
                        · replace c118 := Bool.eq_false_iff.mpr c118
                          subst c118
                          have H1 : ((schema_Int.f (t157 ++ (⟨#[32]⟩ : ByteArray))).bind fun t177 => (if t177 = true then (some false) else (if 1 + t157.size ≤ 9223372036854775807 then ((schema_Float.f kj18 ((⟨#[32]⟩ : ByteArray) ++ t157)).bind fun t178 => (if t178 = true then (some false) else ((scholiumlaw08_wakes.f kj18).bind fun t179 => (some t179)))) else (none)))) = some r := by rw [if_neg (show ¬ (false = true) by decide)] at H; exact H
                          clear H
                          have H := H1
                          clear H1
                          replace H := Option.bind_eq_some_iff.mp H
                          obtain ⟨t177, A1230, H⟩ := H
                          replace H : (if t177 = true then (some false) else (if 1 + t157.size ≤ 9223372036854775807 then ((schema_Float.f kj18 ((⟨#[32]⟩ : ByteArray) ++ t157)).bind fun t178 => (if t178 = true then (some false) else ((scholiumlaw08_wakes.f kj18).bind fun t179 => (some t179)))) else (none))) = some r := H
                          have A123 := Aside0.mk A1230
                          clear A1230
                          by_cases c124 : t177 = true
                          · subst c124
                            have H1 : (some false) = some r := by rw [if_pos rfl] at H; exact H
                            clear H
                            have H := H1
                            clear H1
                            obtain rfl := Option.some.inj H
                            go_wp2_with (first | ((with_reducible refine gate_callee (f := 15) rfl ?_); refine goesL_ (some 81) rfl rfl Try.func15 (by kernel_rfl) rfl #[.string t157] rfl (by (try simp only [List.map_toArray, List.map_cons, List.map_nil]); first | done | rfl | (simp only [List.length_drop, List.length_take]; rfl)) ?_; (with_reducible refine (schema_Null.calls kj18 t157 true _ A73.out).mono ?_); rintro e w125 ⟨rfl, hb⟩; refine ⟨_, rfl, ?_⟩; have n0_ := Aside0.mk (below_step (by repeat (first | (with_reducible first | exact HB.out | apply below_alloc | apply pw_below_drewN | apply below_drew1) | exact HB.out)) hb); clear HB; have HB := n0_; clear n0_; (try clear hb); (try clear hb2); (try clear hk); (try clear hi)) | (go_at_call 15; (with_reducible refine (schema_Null.calls kj18 (t157 ++ (⟨#[120]⟩ : ByteArray)) false _ A108.out).mono ?_); rintro e w126 ⟨rfl, hb⟩; have n0_ := Aside0.mk (below_step (by repeat (first | (with_reducible first | exact HB.out | apply below_alloc | apply pw_below_drewN | apply below_drew1) | exact HB.out)) hb); clear HB; have HB := n0_; clear n0_; (try clear hb); (try clear hb2); (try clear hk); (try clear hi)) | (go_at_call 16; (with_reducible refine (schema_Bool.calls kj18 (t157 ++ (⟨#[32]⟩ : ByteArray)) false _ A112.out).mono ?_); rintro e w127 ⟨rfl, hb⟩; have n0_ := Aside0.mk (below_step (by repeat (first | (with_reducible first | exact HB.out | apply below_alloc | apply pw_below_drewN | apply below_drew1) | exact HB.out)) hb); clear HB; have HB := n0_; clear n0_; (try clear hb); (try clear hb2); (try clear hk); (try clear hi)) | (go_at_call 15; (with_reducible refine (schema_Null.calls kj18 (t157 ++ (⟨#[32]⟩ : ByteArray)) false _ A117.out).mono ?_); rintro e w128 ⟨rfl, hb⟩; have n0_ := Aside0.mk (below_step (by repeat (first | (with_reducible first | exact HB.out | apply below_alloc | apply pw_below_drewN | apply below_drew1) | exact HB.out)) hb); clear HB; have HB := n0_; clear n0_; (try clear hb); (try clear hb2); (try clear hk); (try clear hi)) | (go_at_call 17; (with_reducible refine (schema_Int.calls (t157 ++ (⟨#[32]⟩ : ByteArray)) true _ A123.out).mono ?_); rintro e w129 ⟨rfl, hb⟩; have n0_ := Aside0.mk (below_step (by repeat (first | (with_reducible first | exact HB.out | apply below_alloc | apply pw_below_drewN | apply below_drew1) | exact HB.out)) hb); clear HB; have HB := n0_; clear n0_; (try clear hb); (try clear hb2); (try clear hk); (try clear hi)))
                            go_ret
                            exact ⟨by first | rfl | (simp [errW_none, errW_some] <;> rfl) | (simp [*, errW_none, errW_some] <;> rfl), by repeat (first | (with_reducible first | exact HB.out | apply below_alloc | apply pw_below_drewN | apply below_drew1) | exact HB.out)⟩
                          · replace c124 := Bool.eq_false_iff.mpr c124
                            subst c124
                            have H1 : (if 1 + t157.size ≤ 9223372036854775807 then ((schema_Float.f kj18 ((⟨#[32]⟩ : ByteArray) ++ t157)).bind fun t178 => (if t178 = true then (some false) else ((scholiumlaw08_wakes.f kj18).bind fun t179 => (some t179)))) else (none)) = some r := by rw [if_neg (show ¬ (false = true) by decide)] at H; exact H
                            clear H
                            have H := H1
                            clear H1
                            by_cases c130 : 1 + t157.size ≤ 9223372036854775807
                            · rw [if_pos c130] at H
                              have c130b0 := eq_true c130
                              have c130b1 : decide (1 + t157.size ≤ 9223372036854775807) = true := decide_eq_true c130
                              try have c130b2 : (9223372036854775807 < 1 + t157.size) = False := eq_false (Nat.not_lt.2 c130)
                              replace H := Option.bind_eq_some_iff.mp H
                              obtain ⟨t178, A1310, H⟩ := H
                              replace H : (if t178 = true then (some false) else ((scholiumlaw08_wakes.f kj18).bind fun t179 => (some t179))) = some r := H
                              have A131 := Aside0.mk A1310
                              clear A1310
                              by_cases c132 : t178 = true
                              · subst c132
                                have H1 : (some false) = some r := by rw [if_pos rfl] at H; exact H
                                clear H
                                have H := H1
                                clear H1
                                obtain rfl := Option.some.inj H
                                go_wp2_with (first | ((with_reducible refine gate_callee (f := 15) rfl ?_); refine goesL_ (some 81) rfl rfl Try.func15 (by kernel_rfl) rfl #[.string t157] rfl (by (try simp only [List.map_toArray, List.map_cons, List.map_nil]); first | done | rfl | (simp only [List.length_drop, List.length_take]; rfl)) ?_; (with_reducible refine (schema_Null.calls kj18 t157 true _ A73.out).mono ?_); rintro e w133 ⟨rfl, hb⟩; refine ⟨_, rfl, ?_⟩; have n0_ := Aside0.mk (below_step (by repeat (first | (with_reducible first | exact HB.out | apply below_alloc | apply pw_below_drewN | apply below_drew1) | exact HB.out)) hb); clear HB; have HB := n0_; clear n0_; (try clear hb); (try clear hb2); (try clear hk); (try clear hi)) | (go_at_call 15; (with_reducible refine (schema_Null.calls kj18 (t157 ++ (⟨#[120]⟩ : ByteArray)) false _ A108.out).mono ?_); rintro e w134 ⟨rfl, hb⟩; have n0_ := Aside0.mk (below_step (by repeat (first | (with_reducible first | exact HB.out | apply below_alloc | apply pw_below_drewN | apply below_drew1) | exact HB.out)) hb); clear HB; have HB := n0_; clear n0_; (try clear hb); (try clear hb2); (try clear hk); (try clear hi)) | (go_at_call 16; (with_reducible refine (schema_Bool.calls kj18 (t157 ++ (⟨#[32]⟩ : ByteArray)) false _ A112.out).mono ?_); rintro e w135 ⟨rfl, hb⟩; have n0_ := Aside0.mk (below_step (by repeat (first | (with_reducible first | exact HB.out | apply below_alloc | apply pw_below_drewN | apply below_drew1) | exact HB.out)) hb); clear HB; have HB := n0_; clear n0_; (try clear hb); (try clear hb2); (try clear hk); (try clear hi)) | (go_at_call 15; (with_reducible refine (schema_Null.calls kj18 (t157 ++ (⟨#[32]⟩ : ByteArray)) false _ A117.out).mono ?_); rintro e w136 ⟨rfl, hb⟩; have n0_ := Aside0.mk (below_step (by repeat (first | (with_reducible first | exact HB.out | apply below_alloc | apply pw_below_drewN | apply below_drew1) | exact HB.out)) hb); clear HB; have HB := n0_; clear n0_; (try clear hb); (try clear hb2); (try clear hk); (try clear hi)) | (go_at_call 17; (with_reducible refine (schema_Int.calls (t157 ++ (⟨#[32]⟩ : ByteArray)) false _ A123.out).mono ?_); rintro e w137 ⟨rfl, hb⟩; have n0_ := Aside0.mk (below_step (by repeat (first | (with_reducible first | exact HB.out | apply below_alloc | apply pw_below_drewN | apply below_drew1) | exact HB.out)) hb); clear HB; have HB := n0_; clear n0_; (try clear hb); (try clear hb2); (try clear hk); (try clear hi)) | (go_at_call 18; (with_reducible refine (schema_Float.calls kj18 ((⟨#[32]⟩ : ByteArray) ++ t157) true _ A131.out).mono ?_); rintro e w138 ⟨rfl, hb⟩; have n0_ := Aside0.mk (below_step (by repeat (first | (with_reducible first | exact HB.out | apply below_alloc | apply pw_below_drewN | apply below_drew1) | exact HB.out)) hb); clear HB; have HB := n0_; clear n0_; (try clear hb); (try clear hb2); (try clear hk); (try clear hi)))
                                go_ret
                                exact ⟨by first | rfl | (simp [errW_none, errW_some] <;> rfl) | (simp [*, errW_none, errW_some] <;> rfl), by repeat (first | (with_reducible first | exact HB.out | apply below_alloc | apply pw_below_drewN | apply below_drew1) | exact HB.out)⟩
                              · replace c132 := Bool.eq_false_iff.mpr c132
                                subst c132
                                have H1 : ((scholiumlaw08_wakes.f kj18).bind fun t179 => (some t179)) = some r := by rw [if_neg (show ¬ (false = true) by decide)] at H; exact H
                                clear H
                                have H := H1
                                clear H1
                                replace H := Option.bind_eq_some_iff.mp H
                                obtain ⟨t179, A1390, H⟩ := H
                                replace H : (some t179) = some r := H
                                have A139 := Aside0.mk A1390
                                clear A1390
                                obtain rfl := Option.some.inj H
                                go_wp2_with (first | ((with_reducible refine gate_callee (f := 15) rfl ?_); refine goesL_ (some 81) rfl rfl Try.func15 (by kernel_rfl) rfl #[.string t157] rfl (by (try simp only [List.map_toArray, List.map_cons, List.map_nil]); first | done | rfl | (simp only [List.length_drop, List.length_take]; rfl)) ?_; (with_reducible refine (schema_Null.calls kj18 t157 true _ A73.out).mono ?_); rintro e w140 ⟨rfl, hb⟩; refine ⟨_, rfl, ?_⟩; have n0_ := Aside0.mk (below_step (by repeat (first | (with_reducible first | exact HB.out | apply below_alloc | apply pw_below_drewN | apply below_drew1) | exact HB.out)) hb); clear HB; have HB := n0_; clear n0_; (try clear hb); (try clear hb2); (try clear hk); (try clear hi)) | (go_at_call 15; (with_reducible refine (schema_Null.calls kj18 (t157 ++ (⟨#[120]⟩ : ByteArray)) false _ A108.out).mono ?_); rintro e w141 ⟨rfl, hb⟩; have n0_ := Aside0.mk (below_step (by repeat (first | (with_reducible first | exact HB.out | apply below_alloc | apply pw_below_drewN | apply below_drew1) | exact HB.out)) hb); clear HB; have HB := n0_; clear n0_; (try clear hb); (try clear hb2); (try clear hk); (try clear hi)) | (go_at_call 16; (with_reducible refine (schema_Bool.calls kj18 (t157 ++ (⟨#[32]⟩ : ByteArray)) false _ A112.out).mono ?_); rintro e w142 ⟨rfl, hb⟩; have n0_ := Aside0.mk (below_step (by repeat (first | (with_reducible first | exact HB.out | apply below_alloc | apply pw_below_drewN | apply below_drew1) | exact HB.out)) hb); clear HB; have HB := n0_; clear n0_; (try clear hb); (try clear hb2); (try clear hk); (try clear hi)) | (go_at_call 15; (with_reducible refine (schema_Null.calls kj18 (t157 ++ (⟨#[32]⟩ : ByteArray)) false _ A117.out).mono ?_); rintro e w143 ⟨rfl, hb⟩; have n0_ := Aside0.mk (below_step (by repeat (first | (with_reducible first | exact HB.out | apply below_alloc | apply pw_below_drewN | apply below_drew1) | exact HB.out)) hb); clear HB; have HB := n0_; clear n0_; (try clear hb); (try clear hb2); (try clear hk); (try clear hi)) | (go_at_call 17; (with_reducible refine (schema_Int.calls (t157 ++ (⟨#[32]⟩ : ByteArray)) false _ A123.out).mono ?_); rintro e w144 ⟨rfl, hb⟩; have n0_ := Aside0.mk (below_step (by repeat (first | (with_reducible first | exact HB.out | apply below_alloc | apply pw_below_drewN | apply below_drew1) | exact HB.out)) hb); clear HB; have HB := n0_; clear n0_; (try clear hb); (try clear hb2); (try clear hk); (try clear hi)) | (go_at_call 18; (with_reducible refine (schema_Float.calls kj18 ((⟨#[32]⟩ : ByteArray) ++ t157) false _ A131.out).mono ?_); rintro e w145 ⟨rfl, hb⟩; have n0_ := Aside0.mk (below_step (by repeat (first | (with_reducible first | exact HB.out | apply below_alloc | apply pw_below_drewN | apply below_drew1) | exact HB.out)) hb); clear HB; have HB := n0_; clear n0_; (try clear hb); (try clear hb2); (try clear hk); (try clear hi)) | (go_at_call 13; (with_reducible refine (scholiumlaw08_wakes.calls kj18  t179 _ A139.out).mono ?_); rintro e w146 ⟨rfl, hb⟩; have n0_ := Aside0.mk (below_step (by repeat (first | (with_reducible first | exact HB.out | apply below_alloc | apply pw_below_drewN | apply below_drew1) | exact HB.out)) hb); clear HB; have HB := n0_; clear n0_; (try clear hb); (try clear hb2); (try clear hk); (try clear hi)))
                                go_ret
                                exact ⟨by first | rfl | (simp [errW_none, errW_some] <;> rfl) | (simp [*, errW_none, errW_some] <;> rfl), by repeat (first | (with_reducible first | exact HB.out | apply below_alloc | apply pw_below_drewN | apply below_drew1) | exact HB.out)⟩
                            · rw [if_neg c130] at H
                              exact absurd H (by simp)
                  · rw [if_neg c107] at H
                    exact absurd H (by simp)
              · replace c74 := Bool.eq_false_iff.mpr c74
                subst c74
                have H1 : (if t157.size + 1 ≤ 9223372036854775807 then ((schema_Bool.f kj18 (t157 ++ (⟨#[32]⟩ : ByteArray))).bind fun t180 => (if t180 = true then (some false) else ((schema_Null.f kj18 (t157 ++ (⟨#[32]⟩ : ByteArray))).bind fun t181 => (if t181 = true then (some false) else ((schema_Int.f (t157 ++ (⟨#[32]⟩ : ByteArray))).bind fun t182 => (if t182 = true then (some false) else (if 1 + t157.size ≤ 9223372036854775807 then ((schema_Float.f kj18 ((⟨#[32]⟩ : ByteArray) ++ t157)).bind fun t183 => (if t183 = true then (some false) else ((scholiumlaw08_wakes.f kj18).bind fun t184 => (some t184)))) else (none)))))))) else (none)) = some r := by rw [if_neg (show ¬ (false = true) by decide)] at H; exact H
                clear H
                have H := H1
                clear H1
                by_cases c147 : t157.size + 1 ≤ 9223372036854775807
                · rw [if_pos c147] at H
                  have c147b0 := eq_true c147
                  have c147b1 : decide (t157.size + 1 ≤ 9223372036854775807) = true := decide_eq_true c147
                  try have c147b2 : (9223372036854775807 < t157.size + 1) = False := eq_false (Nat.not_lt.2 c147)
                  replace H := Option.bind_eq_some_iff.mp H
                  obtain ⟨t180, A1480, H⟩ := H
                  replace H : (if t180 = true then (some false) else ((schema_Null.f kj18 (t157 ++ (⟨#[32]⟩ : ByteArray))).bind fun t181 => (if t181 = true then (some false) else ((schema_Int.f (t157 ++ (⟨#[32]⟩ : ByteArray))).bind fun t182 => (if t182 = true then (some false) else (if 1 + t157.size ≤ 9223372036854775807 then ((schema_Float.f kj18 ((⟨#[32]⟩ : ByteArray) ++ t157)).bind fun t183 => (if t183 = true then (some false) else ((scholiumlaw08_wakes.f kj18).bind fun t184 => (some t184)))) else (none))))))) = some r := H
                  have A148 := Aside0.mk A1480
                  clear A1480
                  by_cases c149 : t180 = true
                  · subst c149
                    have H1 : (some false) = some r := by rw [if_pos rfl] at H; exact H
                    clear H
                    have H := H1
                    clear H1
                    obtain rfl := Option.some.inj H
                    go_wp2_with (first | ((with_reducible refine gate_callee (f := 15) rfl ?_); refine goesL_ (some 81) rfl rfl Try.func15 (by kernel_rfl) rfl #[.string t157] rfl (by (try simp only [List.map_toArray, List.map_cons, List.map_nil]); first | done | rfl | (simp only [List.length_drop, List.length_take]; rfl)) ?_; (with_reducible refine (schema_Null.calls kj18 t157 false _ A73.out).mono ?_); rintro e w150 ⟨rfl, hb⟩; refine ⟨_, rfl, ?_⟩; have n0_ := Aside0.mk (below_step (by repeat (first | (with_reducible first | exact HB.out | apply below_alloc | apply pw_below_drewN | apply below_drew1) | exact HB.out)) hb); clear HB; have HB := n0_; clear n0_; (try clear hb); (try clear hb2); (try clear hk); (try clear hi)) | (go_at_call 16; (with_reducible refine (schema_Bool.calls kj18 (t157 ++ (⟨#[32]⟩ : ByteArray)) true _ A148.out).mono ?_); rintro e w151 ⟨rfl, hb⟩; have n0_ := Aside0.mk (below_step (by repeat (first | (with_reducible first | exact HB.out | apply below_alloc | apply pw_below_drewN | apply below_drew1) | exact HB.out)) hb); clear HB; have HB := n0_; clear n0_; (try clear hb); (try clear hb2); (try clear hk); (try clear hi)))
                    go_ret
                    exact ⟨by first | rfl | (simp [errW_none, errW_some] <;> rfl) | (simp [*, errW_none, errW_some] <;> rfl), by repeat (first | (with_reducible first | exact HB.out | apply below_alloc | apply pw_below_drewN | apply below_drew1) | exact HB.out)⟩
                  · replace c149 := Bool.eq_false_iff.mpr c149
                    subst c149
                    have H1 : ((schema_Null.f kj18 (t157 ++ (⟨#[32]⟩ : ByteArray))).bind fun t181 => (if t181 = true then (some false) else ((schema_Int.f (t157 ++ (⟨#[32]⟩ : ByteArray))).bind fun t182 => (if t182 = true then (some false) else (if 1 + t157.size ≤ 9223372036854775807 then ((schema_Float.f kj18 ((⟨#[32]⟩ : ByteArray) ++ t157)).bind fun t183 => (if t183 = true then (some false) else ((scholiumlaw08_wakes.f kj18).bind fun t184 => (some t184)))) else (none)))))) = some r := by rw [if_neg (show ¬ (false = true) by decide)] at H; exact H
                    clear H
                    have H := H1
                    clear H1
                    replace H := Option.bind_eq_some_iff.mp H
                    obtain ⟨t181, A1520, H⟩ := H
                    replace H : (if t181 = true then (some false) else ((schema_Int.f (t157 ++ (⟨#[32]⟩ : ByteArray))).bind fun t182 => (if t182 = true then (some false) else (if 1 + t157.size ≤ 9223372036854775807 then ((schema_Float.f kj18 ((⟨#[32]⟩ : ByteArray) ++ t157)).bind fun t183 => (if t183 = true then (some false) else ((scholiumlaw08_wakes.f kj18).bind fun t184 => (some t184)))) else (none))))) = some r := H
                    have A152 := Aside0.mk A1520
                    clear A1520
                    by_cases c153 : t181 = true
                    · subst c153
                      have H1 : (some false) = some r := by rw [if_pos rfl] at H; exact H
                      clear H
                      have H := H1
                      clear H1
                      obtain rfl := Option.some.inj H
                      go_wp2_with (first | ((with_reducible refine gate_callee (f := 15) rfl ?_); refine goesL_ (some 81) rfl rfl Try.func15 (by kernel_rfl) rfl #[.string t157] rfl (by (try simp only [List.map_toArray, List.map_cons, List.map_nil]); first | done | rfl | (simp only [List.length_drop, List.length_take]; rfl)) ?_; (with_reducible refine (schema_Null.calls kj18 t157 false _ A73.out).mono ?_); rintro e w154 ⟨rfl, hb⟩; refine ⟨_, rfl, ?_⟩; have n0_ := Aside0.mk (below_step (by repeat (first | (with_reducible first | exact HB.out | apply below_alloc | apply pw_below_drewN | apply below_drew1) | exact HB.out)) hb); clear HB; have HB := n0_; clear n0_; (try clear hb); (try clear hb2); (try clear hk); (try clear hi)) | (go_at_call 16; (with_reducible refine (schema_Bool.calls kj18 (t157 ++ (⟨#[32]⟩ : ByteArray)) false _ A148.out).mono ?_); rintro e w155 ⟨rfl, hb⟩; have n0_ := Aside0.mk (below_step (by repeat (first | (with_reducible first | exact HB.out | apply below_alloc | apply pw_below_drewN | apply below_drew1) | exact HB.out)) hb); clear HB; have HB := n0_; clear n0_; (try clear hb); (try clear hb2); (try clear hk); (try clear hi)) | (go_at_call 15; (with_reducible refine (schema_Null.calls kj18 (t157 ++ (⟨#[32]⟩ : ByteArray)) true _ A152.out).mono ?_); rintro e w156 ⟨rfl, hb⟩; have n0_ := Aside0.mk (below_step (by repeat (first | (with_reducible first | exact HB.out | apply below_alloc | apply pw_below_drewN | apply below_drew1) | exact HB.out)) hb); clear HB; have HB := n0_; clear n0_; (try clear hb); (try clear hb2); (try clear hk); (try clear hi)))
                      go_ret
                      exact ⟨by first | rfl | (simp [errW_none, errW_some] <;> rfl) | (simp [*, errW_none, errW_some] <;> rfl), by repeat (first | (with_reducible first | exact HB.out | apply below_alloc | apply pw_below_drewN | apply below_drew1) | exact HB.out)⟩
                    · replace c153 := Bool.eq_false_iff.mpr c153
                      subst c153
                      have H1 : ((schema_Int.f (t157 ++ (⟨#[32]⟩ : ByteArray))).bind fun t182 => (if t182 = true then (some false) else (if 1 + t157.size ≤ 9223372036854775807 then ((schema_Float.f kj18 ((⟨#[32]⟩ : ByteArray) ++ t157)).bind fun t183 => (if t183 = true then (some false) else ((scholiumlaw08_wakes.f kj18).bind fun t184 => (some t184)))) else (none)))) = some r := by rw [if_neg (show ¬ (false = true) by decide)] at H; exact H
                      clear H
                      have H := H1
                      clear H1
                      replace H := Option.bind_eq_some_iff.mp H
                      obtain ⟨t182, A1570, H⟩ := H
                      replace H : (if t182 = true then (some false) else (if 1 + t157.size ≤ 9223372036854775807 then ((schema_Float.f kj18 ((⟨#[32]⟩ : ByteArray) ++ t157)).bind fun t183 => (if t183 = true then (some false) else ((scholiumlaw08_wakes.f kj18).bind fun t184 => (some t184)))) else (none))) = some r := H
                      have A157 := Aside0.mk A1570
                      clear A1570
                      by_cases c158 : t182 = true
                      · subst c158
                        have H1 : (some false) = some r := by rw [if_pos rfl] at H; exact H
                        clear H
                        have H := H1
                        clear H1
                        obtain rfl := Option.some.inj H
                        go_wp2_with (first | ((with_reducible refine gate_callee (f := 15) rfl ?_); refine goesL_ (some 81) rfl rfl Try.func15 (by kernel_rfl) rfl #[.string t157] rfl (by (try simp only [List.map_toArray, List.map_cons, List.map_nil]); first | done | rfl | (simp only [List.length_drop, List.length_take]; rfl)) ?_; (with_reducible refine (schema_Null.calls kj18 t157 false _ A73.out).mono ?_); rintro e w159 ⟨rfl, hb⟩; refine ⟨_, rfl, ?_⟩; have n0_ := Aside0.mk (below_step (by repeat (first | (with_reducible first | exact HB.out | apply below_alloc | apply pw_below_drewN | apply below_drew1) | exact HB.out)) hb); clear HB; have HB := n0_; clear n0_; (try clear hb); (try clear hb2); (try clear hk); (try clear hi)) | (go_at_call 16; (with_reducible refine (schema_Bool.calls kj18 (t157 ++ (⟨#[32]⟩ : ByteArray)) false _ A148.out).mono ?_); rintro e w160 ⟨rfl, hb⟩; have n0_ := Aside0.mk (below_step (by repeat (first | (with_reducible first | exact HB.out | apply below_alloc | apply pw_below_drewN | apply below_drew1) | exact HB.out)) hb); clear HB; have HB := n0_; clear n0_; (try clear hb); (try clear hb2); (try clear hk); (try clear hi)) | (go_at_call 15; (with_reducible refine (schema_Null.calls kj18 (t157 ++ (⟨#[32]⟩ : ByteArray)) false _ A152.out).mono ?_); rintro e w161 ⟨rfl, hb⟩; have n0_ := Aside0.mk (below_step (by repeat (first | (with_reducible first | exact HB.out | apply below_alloc | apply pw_below_drewN | apply below_drew1) | exact HB.out)) hb); clear HB; have HB := n0_; clear n0_; (try clear hb); (try clear hb2); (try clear hk); (try clear hi)) | (go_at_call 17; (with_reducible refine (schema_Int.calls (t157 ++ (⟨#[32]⟩ : ByteArray)) true _ A157.out).mono ?_); rintro e w162 ⟨rfl, hb⟩; have n0_ := Aside0.mk (below_step (by repeat (first | (with_reducible first | exact HB.out | apply below_alloc | apply pw_below_drewN | apply below_drew1) | exact HB.out)) hb); clear HB; have HB := n0_; clear n0_; (try clear hb); (try clear hb2); (try clear hk); (try clear hi)))
                        go_ret
                        exact ⟨by first | rfl | (simp [errW_none, errW_some] <;> rfl) | (simp [*, errW_none, errW_some] <;> rfl), by repeat (first | (with_reducible first | exact HB.out | apply below_alloc | apply pw_below_drewN | apply below_drew1) | exact HB.out)⟩
                      · replace c158 := Bool.eq_false_iff.mpr c158
                        subst c158
                        have H1 : (if 1 + t157.size ≤ 9223372036854775807 then ((schema_Float.f kj18 ((⟨#[32]⟩ : ByteArray) ++ t157)).bind fun t183 => (if t183 = true then (some false) else ((scholiumlaw08_wakes.f kj18).bind fun t184 => (some t184)))) else (none)) = some r := by rw [if_neg (show ¬ (false = true) by decide)] at H; exact H
                        clear H
                        have H := H1
                        clear H1
                        by_cases c163 : 1 + t157.size ≤ 9223372036854775807
                        · rw [if_pos c163] at H
                          have c163b0 := eq_true c163
                          have c163b1 : decide (1 + t157.size ≤ 9223372036854775807) = true := decide_eq_true c163
                          try have c163b2 : (9223372036854775807 < 1 + t157.size) = False := eq_false (Nat.not_lt.2 c163)
                          replace H := Option.bind_eq_some_iff.mp H
                          obtain ⟨t183, A1640, H⟩ := H
                          replace H : (if t183 = true then (some false) else ((scholiumlaw08_wakes.f kj18).bind fun t184 => (some t184))) = some r := H
                          have A164 := Aside0.mk A1640
                          clear A1640
                          by_cases c165 : t183 = true
                          · subst c165
                            have H1 : (some false) = some r := by rw [if_pos rfl] at H; exact H
                            clear H
                            have H := H1
                            clear H1
                            obtain rfl := Option.some.inj H
                            go_wp2_with (first | ((with_reducible refine gate_callee (f := 15) rfl ?_); refine goesL_ (some 81) rfl rfl Try.func15 (by kernel_rfl) rfl #[.string t157] rfl (by (try simp only [List.map_toArray, List.map_cons, List.map_nil]); first | done | rfl | (simp only [List.length_drop, List.length_take]; rfl)) ?_; (with_reducible refine (schema_Null.calls kj18 t157 false _ A73.out).mono ?_); rintro e w166 ⟨rfl, hb⟩; refine ⟨_, rfl, ?_⟩; have n0_ := Aside0.mk (below_step (by repeat (first | (with_reducible first | exact HB.out | apply below_alloc | apply pw_below_drewN | apply below_drew1) | exact HB.out)) hb); clear HB; have HB := n0_; clear n0_; (try clear hb); (try clear hb2); (try clear hk); (try clear hi)) | (go_at_call 16; (with_reducible refine (schema_Bool.calls kj18 (t157 ++ (⟨#[32]⟩ : ByteArray)) false _ A148.out).mono ?_); rintro e w167 ⟨rfl, hb⟩; have n0_ := Aside0.mk (below_step (by repeat (first | (with_reducible first | exact HB.out | apply below_alloc | apply pw_below_drewN | apply below_drew1) | exact HB.out)) hb); clear HB; have HB := n0_; clear n0_; (try clear hb); (try clear hb2); (try clear hk); (try clear hi)) | (go_at_call 15; (with_reducible refine (schema_Null.calls kj18 (t157 ++ (⟨#[32]⟩ : ByteArray)) false _ A152.out).mono ?_); rintro e w168 ⟨rfl, hb⟩; have n0_ := Aside0.mk (below_step (by repeat (first | (with_reducible first | exact HB.out | apply below_alloc | apply pw_below_drewN | apply below_drew1) | exact HB.out)) hb); clear HB; have HB := n0_; clear n0_; (try clear hb); (try clear hb2); (try clear hk); (try clear hi)) | (go_at_call 17; (with_reducible refine (schema_Int.calls (t157 ++ (⟨#[32]⟩ : ByteArray)) false _ A157.out).mono ?_); rintro e w169 ⟨rfl, hb⟩; have n0_ := Aside0.mk (below_step (by repeat (first | (with_reducible first | exact HB.out | apply below_alloc | apply pw_below_drewN | apply below_drew1) | exact HB.out)) hb); clear HB; have HB := n0_; clear n0_; (try clear hb); (try clear hb2); (try clear hk); (try clear hi)) | (go_at_call 18; (with_reducible refine (schema_Float.calls kj18 ((⟨#[32]⟩ : ByteArray) ++ t157) true _ A164.out).mono ?_); rintro e w170 ⟨rfl, hb⟩; have n0_ := Aside0.mk (below_step (by repeat (first | (with_reducible first | exact HB.out | apply below_alloc | apply pw_below_drewN | apply below_drew1) | exact HB.out)) hb); clear HB; have HB := n0_; clear n0_; (try clear hb); (try clear hb2); (try clear hk); (try clear hi)))
                            go_ret
                            exact ⟨by first | rfl | (simp [errW_none, errW_some] <;> rfl) | (simp [*, errW_none, errW_some] <;> rfl), by repeat (first | (with_reducible first | exact HB.out | apply below_alloc | apply pw_below_drewN | apply below_drew1) | exact HB.out)⟩
                          · replace c165 := Bool.eq_false_iff.mpr c165
                            subst c165
                            have H1 : ((scholiumlaw08_wakes.f kj18).bind fun t184 => (some t184)) = some r := by rw [if_neg (show ¬ (false = true) by decide)] at H; exact H
                            clear H
                            have H := H1
                            clear H1
                            replace H := Option.bind_eq_some_iff.mp H
                            obtain ⟨t184, A1710, H⟩ := H
                            replace H : (some t184) = some r := H
                            have A171 := Aside0.mk A1710
                            clear A1710
                            obtain rfl := Option.some.inj H
                            go_wp2_with (first | ((with_reducible refine gate_callee (f := 15) rfl ?_); refine goesL_ (some 81) rfl rfl Try.func15 (by kernel_rfl) rfl #[.string t157] rfl (by (try simp only [List.map_toArray, List.map_cons, List.map_nil]); first | done | rfl | (simp only [List.length_drop, List.length_take]; rfl)) ?_; (with_reducible refine (schema_Null.calls kj18 t157 false _ A73.out).mono ?_); rintro e w172 ⟨rfl, hb⟩; refine ⟨_, rfl, ?_⟩; have n0_ := Aside0.mk (below_step (by repeat (first | (with_reducible first | exact HB.out | apply below_alloc | apply pw_below_drewN | apply below_drew1) | exact HB.out)) hb); clear HB; have HB := n0_; clear n0_; (try clear hb); (try clear hb2); (try clear hk); (try clear hi)) | (go_at_call 16; (with_reducible refine (schema_Bool.calls kj18 (t157 ++ (⟨#[32]⟩ : ByteArray)) false _ A148.out).mono ?_); rintro e w173 ⟨rfl, hb⟩; have n0_ := Aside0.mk (below_step (by repeat (first | (with_reducible first | exact HB.out | apply below_alloc | apply pw_below_drewN | apply below_drew1) | exact HB.out)) hb); clear HB; have HB := n0_; clear n0_; (try clear hb); (try clear hb2); (try clear hk); (try clear hi)) | (go_at_call 15; (with_reducible refine (schema_Null.calls kj18 (t157 ++ (⟨#[32]⟩ : ByteArray)) false _ A152.out).mono ?_); rintro e w174 ⟨rfl, hb⟩; have n0_ := Aside0.mk (below_step (by repeat (first | (with_reducible first | exact HB.out | apply below_alloc | apply pw_below_drewN | apply below_drew1) | exact HB.out)) hb); clear HB; have HB := n0_; clear n0_; (try clear hb); (try clear hb2); (try clear hk); (try clear hi)) | (go_at_call 17; (with_reducible refine (schema_Int.calls (t157 ++ (⟨#[32]⟩ : ByteArray)) false _ A157.out).mono ?_); rintro e w175 ⟨rfl, hb⟩; have n0_ := Aside0.mk (below_step (by repeat (first | (with_reducible first | exact HB.out | apply below_alloc | apply pw_below_drewN | apply below_drew1) | exact HB.out)) hb); clear HB; have HB := n0_; clear n0_; (try clear hb); (try clear hb2); (try clear hk); (try clear hi)) | (go_at_call 18; (with_reducible refine (schema_Float.calls kj18 ((⟨#[32]⟩ : ByteArray) ++ t157) false _ A164.out).mono ?_); rintro e w176 ⟨rfl, hb⟩; have n0_ := Aside0.mk (below_step (by repeat (first | (with_reducible first | exact HB.out | apply below_alloc | apply pw_below_drewN | apply below_drew1) | exact HB.out)) hb); clear HB; have HB := n0_; clear n0_; (try clear hb); (try clear hb2); (try clear hk); (try clear hi)) | (go_at_call 13; (with_reducible refine (scholiumlaw08_wakes.calls kj18  t184 _ A171.out).mono ?_); rintro e w177 ⟨rfl, hb⟩; have n0_ := Aside0.mk (below_step (by repeat (first | (with_reducible first | exact HB.out | apply below_alloc | apply pw_below_drewN | apply below_drew1) | exact HB.out)) hb); clear HB; have HB := n0_; clear n0_; (try clear hb); (try clear hb2); (try clear hk); (try clear hi)))
                            go_ret
                            exact ⟨by first | rfl | (simp [errW_none, errW_some] <;> rfl) | (simp [*, errW_none, errW_some] <;> rfl), by repeat (first | (with_reducible first | exact HB.out | apply below_alloc | apply pw_below_drewN | apply below_drew1) | exact HB.out)⟩
                        · rw [if_neg c163] at H
                          exact absurd H (by simp)
                · rw [if_neg c147] at H
                  exact absurd H (by simp)

/-- THE ONE PURE STATEMENT of scholiumlaw08_SchemaSigns: yours. -/
def scholiumlaw08_SchemaSigns.Pure : Prop := ∀ (a0 : ByteArray) (l1 : List Int) (a2 : Bool), a0.size ≤ 140737488351232 → l1.length ≤ maxLen → l1.length * 8 ≤ 140737488351232 → (∀ x ∈ l1, (Lit.int .i64 x).wf = true) → ∃ k, scholiumlaw08_SchemaSigns.f k a0 l1 a2 = some true
theorem scholiumlaw08_SchemaSigns.walk (P : scholiumlaw08_SchemaSigns.Pure) (a0 : ByteArray) (a1 : Option Addr) (len1 cap1 : Nat) (z1 : List Int) (a2 : Bool) (w : World) (w0 : a0.size ≤ 140737488351232) (w1 : (a1 = none ∧ len1 = 0 ∧ cap1 = 0 ∧ z1 = []) ∨ ∃ x, a1 = some x ∧ len1 ≤ cap1 ∧ cap1 ≤ maxLen ∧ z1.length = cap1 ∧ (∀ i, i < z1.length → w.cell? (x.add i) = some (.int .i64 (z1.getD i 0))) ∧ ∀ n ∈ z1, (Lit.int .i64 n).wf = true) (y1 : len1 * 8 ≤ 140737488351232) :
    Calls Try.prog 6 #[.string a0, .slice a1 len1 cap1, .bool a2] w fun e w' => e = .returned (.bool true) ∧ Below w.heap.size w w' := by
  obtain ⟨l1, rfl, hr1, hm1, hw1, hc1⟩ := ReadsInt.ofRowC w1
  obtain ⟨k, h⟩ := P a0 l1 a2 w0 hm1 y1 hw1
  refine (scholiumlaw08_SchemaSigns.calls k a0 _ _ l1 a2 true w (Kd.C_of_reads (d := (0 : Int)) (h1 := fun _ => rfl) hr1) hc1 h).mono ?_
  rintro e w' ⟨rfl, hd⟩
  exact ⟨rfl, hd⟩

end Go.Proofs.Ytoahbekcegcghaa.XSchemaSigns
