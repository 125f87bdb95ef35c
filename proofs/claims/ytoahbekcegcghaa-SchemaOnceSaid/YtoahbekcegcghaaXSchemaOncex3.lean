-- By a program of this session's own over the kit's printer (wip/xprint.py). Not trusted: Lean checks it.
import Derived.Test.YtoahbekcegcghaaXSchemaOncex0
import Derived.Test.YtoahbekcegcghaaXSchemaOncex1
import Derived.Test.YtoahbekcegcghaaXSchemaOncex2
namespace Go.Proofs.Ytoahbekcegcghaa.XSchemaOnce
open Go.RowKit Go.Proofs.YtoahbekcegcghaaW.PrintWords Go.Proofs.YtoahbekcegcghaaW.PrintLast Go.Proofs.YtoahbekcegcghaaW.PrintMore
attribute [local go_sem] max2_int min2_int max_two min_two max_three min_three max_four min_four   -- for this text's walks alone
set_option linter.unusedVariables false
set_option linter.unusedSimpArgs false

/-! ### scholiumlaw08_SchemaOnce: function 4 -/
def scholiumlaw08_SchemaOnce.j0 : Nat → ByteArray → Bool → Bool → Bool → Bool → Bool → Option (Bool)
  | 0, _, _, _, _, _, _ => none
  | k + 1, x7, x8, x9, x10, x11, x43 => if x43 = true then (some false) else (if x8 = true then ((schema_Resolve.f k x7).bind fun t162 => (if t162.toList = ([33, 33, 110, 117, 108, 108] : List UInt8) then ((scholiumlaw08_wakes.f k).bind fun t163 => (some t163)) else (some false))) else (if x9 = true then ((schema_Resolve.f k x7).bind fun t164 => (if t164.toList = ([33, 33, 98, 111, 111, 108] : List UInt8) then ((scholiumlaw08_wakes.f k).bind fun t165 => (some t165)) else (some false))) else (if x10 = true then ((schema_Resolve.f k x7).bind fun t166 => (if t166.toList = ([33, 33, 105, 110, 116] : List UInt8) then ((scholiumlaw08_wakes.f k).bind fun t167 => (some t167)) else (some false))) else (if x11 = true then ((schema_Resolve.f k x7).bind fun t168 => (if t168.toList = ([33, 33, 102, 108, 111, 97, 116] : List UInt8) then ((scholiumlaw08_wakes.f k).bind fun t169 => (some t169)) else (some false))) else ((schema_Resolve.f k x7).bind fun t170 => (if t170.toList = ([33, 33, 115, 116, 114] : List UInt8) then ((scholiumlaw08_wakes.f k).bind fun t171 => (some t171)) else (some false)))))))
def scholiumlaw08_SchemaOnce.f (k : Nat) (a0 : ByteArray) (l1 : List Int) (a2 : Bool) : Option (Bool) := (scholiumlaw08_text.f k a0 l1 a2).bind fun t157 => ((schema_Null.f k t157).bind fun t158 => ((schema_Bool.f k t157).bind fun t159 => ((schema_Int.f t157).bind fun t160 => ((schema_Float.f k t157).bind fun t161 => (if t158 = true then (if t159 = true then (scholiumlaw08_SchemaOnce.j0 k t157 t158 t159 t160 t161 true) else (if t160 = true then (scholiumlaw08_SchemaOnce.j0 k t157 t158 t159 t160 t161 true) else (if t161 = true then (scholiumlaw08_SchemaOnce.j0 k t157 t158 t159 t160 t161 true) else (scholiumlaw08_SchemaOnce.j0 k t157 t158 t159 t160 t161 false)))) else (if t159 = true then (if t160 = true then (scholiumlaw08_SchemaOnce.j0 k t157 t158 t159 t160 t161 true) else (scholiumlaw08_SchemaOnce.j0 k t157 t158 t159 t160 t161 t161)) else (scholiumlaw08_SchemaOnce.j0 k t157 t158 t159 t160 t161 false)))))))
theorem scholiumlaw08_SchemaOnce.mono_l : ∀ k, (∀ y0 y1 y2 y3 y4 y5, LeO (scholiumlaw08_SchemaOnce.j0 k y0 y1 y2 y3 y4 y5) (scholiumlaw08_SchemaOnce.j0 (k + 1) y0 y1 y2 y3 y4 y5))
  | 0 => fun _ _ _ _ _ _ r h => by simp [scholiumlaw08_SchemaOnce.j0] at h
  | k + 1 => by
    have ih0 := scholiumlaw08_SchemaOnce.mono_l k
    · intro y0 y1 y2 y3 y4 y5
      unfold scholiumlaw08_SchemaOnce.j0
      repeat' first
      | (with_reducible exact ih0 _ _ _ _ _ _)
      | (with_reducible exact schema_Bool.mono _ _)
      | (with_reducible exact schema_Float.mono _ _)
      | (with_reducible exact schema_Null.mono _ _)
      | (with_reducible exact schema_Resolve.mono _ _)
      | (with_reducible exact scholiumlaw08_text.mono _ _ _ _)
      | (with_reducible exact scholiumlaw08_wakes.mono _)
      | (with_reducible exact LeO.refl _)
      | (with_reducible exact LeO.none _)
      | (with_reducible refine LeO.ite ?_ ?_)
      | (with_reducible refine LeO.bind ?_ (fun _ => ?_))
      | exact ih0 _ _ _ _ _ _
      | exact schema_Bool.mono _ _
      | exact schema_Float.mono _ _
      | exact schema_Null.mono _ _
      | exact schema_Resolve.mono _ _
      | exact scholiumlaw08_text.mono _ _ _ _
      | exact scholiumlaw08_wakes.mono _
      | exact LeO.none _
      | refine LeO.ite ?_ ?_
      | refine LeO.bind ?_ (fun _ => ?_)
theorem scholiumlaw08_SchemaOnce.mono : ∀ a0 a1 a2 k, LeO (scholiumlaw08_SchemaOnce.f k a0 a1 a2) (scholiumlaw08_SchemaOnce.f (k + 1) a0 a1 a2) := by
  intro a0 a1 a2 k
  have ih0 := scholiumlaw08_SchemaOnce.mono_l k
  unfold scholiumlaw08_SchemaOnce.f
  repeat' first
      | (with_reducible exact ih0 _ _ _ _ _ _)
      | (with_reducible exact schema_Bool.mono _ _)
      | (with_reducible exact schema_Float.mono _ _)
      | (with_reducible exact schema_Null.mono _ _)
      | (with_reducible exact schema_Resolve.mono _ _)
      | (with_reducible exact scholiumlaw08_text.mono _ _ _ _)
      | (with_reducible exact scholiumlaw08_wakes.mono _)
      | (with_reducible exact LeO.refl _)
      | (with_reducible exact LeO.none _)
      | (with_reducible refine LeO.ite ?_ ?_)
      | (with_reducible refine LeO.bind ?_ (fun _ => ?_))
      | exact ih0 _ _ _ _ _ _
      | exact schema_Bool.mono _ _
      | exact schema_Float.mono _ _
      | exact schema_Null.mono _ _
      | exact schema_Resolve.mono _ _
      | exact scholiumlaw08_text.mono _ _ _ _
      | exact scholiumlaw08_wakes.mono _
      | exact LeO.none _
      | refine LeO.ite ?_ ?_
      | refine LeO.bind ?_ (fun _ => ?_)
set_option maxHeartbeats 8000000 in
set_option maxRecDepth 100000 in
theorem scholiumlaw08_SchemaOnce.calls (k : Nat) (a0 : ByteArray) (A1 : Option Addr) (c1 : Nat) (l1 : List Int) (a2 : Bool) (r : Bool) (w : World) (hr1 : Kd.C (Kd.int .i64) w A1 l1.length l1) (hc1 : l1.length ≤ c1) (h : scholiumlaw08_SchemaOnce.f k a0 l1 a2 = some r) :
    Calls Try.prog 4 #[.string a0, .slice A1 l1.length c1, .bool a2] w fun e w' => e = .returned (.bool r) ∧ Below w.heap.size w w' := by
  have HR1 := Aside0.mk hr1
  have HC1 := Aside0.mk hc1
  clear hr1 hc1
  have HB := Aside0.mk (Below.refl w.heap.size w)
  have H : ((scholiumlaw08_text.f k a0 l1 a2).bind fun t157 => ((schema_Null.f k t157).bind fun t158 => ((schema_Bool.f k t157).bind fun t159 => ((schema_Int.f t157).bind fun t160 => ((schema_Float.f k t157).bind fun t161 => (if t158 = true then (if t159 = true then (scholiumlaw08_SchemaOnce.j0 k t157 t158 t159 t160 t161 true) else (if t160 = true then (scholiumlaw08_SchemaOnce.j0 k t157 t158 t159 t160 t161 true) else (if t161 = true then (scholiumlaw08_SchemaOnce.j0 k t157 t158 t159 t160 t161 true) else (scholiumlaw08_SchemaOnce.j0 k t157 t158 t159 t160 t161 false)))) else (if t159 = true then (if t160 = true then (scholiumlaw08_SchemaOnce.j0 k t157 t158 t159 t160 t161 true) else (scholiumlaw08_SchemaOnce.j0 k t157 t158 t159 t160 t161 t161)) else (scholiumlaw08_SchemaOnce.j0 k t157 t158 t159 t160 t161 false)))))))) = some r := h
  clear h
  replace H := Option.bind_eq_some_iff.mp H
  obtain ⟨t157, A40, H⟩ := H
  replace H : ((schema_Null.f k t157).bind fun t158 => ((schema_Bool.f k t157).bind fun t159 => ((schema_Int.f t157).bind fun t160 => ((schema_Float.f k t157).bind fun t161 => (if t158 = true then (if t159 = true then (scholiumlaw08_SchemaOnce.j0 k t157 t158 t159 t160 t161 true) else (if t160 = true then (scholiumlaw08_SchemaOnce.j0 k t157 t158 t159 t160 t161 true) else (if t161 = true then (scholiumlaw08_SchemaOnce.j0 k t157 t158 t159 t160 t161 true) else (scholiumlaw08_SchemaOnce.j0 k t157 t158 t159 t160 t161 false)))) else (if t159 = true then (if t160 = true then (scholiumlaw08_SchemaOnce.j0 k t157 t158 t159 t160 t161 true) else (scholiumlaw08_SchemaOnce.j0 k t157 t158 t159 t160 t161 t161)) else (scholiumlaw08_SchemaOnce.j0 k t157 t158 t159 t160 t161 false))))))) = some r := H
  have A4 := Aside0.mk A40
  clear A40
  replace H := Option.bind_eq_some_iff.mp H
  obtain ⟨t158, A50, H⟩ := H
  replace H : ((schema_Bool.f k t157).bind fun t159 => ((schema_Int.f t157).bind fun t160 => ((schema_Float.f k t157).bind fun t161 => (if t158 = true then (if t159 = true then (scholiumlaw08_SchemaOnce.j0 k t157 t158 t159 t160 t161 true) else (if t160 = true then (scholiumlaw08_SchemaOnce.j0 k t157 t158 t159 t160 t161 true) else (if t161 = true then (scholiumlaw08_SchemaOnce.j0 k t157 t158 t159 t160 t161 true) else (scholiumlaw08_SchemaOnce.j0 k t157 t158 t159 t160 t161 false)))) else (if t159 = true then (if t160 = true then (scholiumlaw08_SchemaOnce.j0 k t157 t158 t159 t160 t161 true) else (scholiumlaw08_SchemaOnce.j0 k t157 t158 t159 t160 t161 t161)) else (scholiumlaw08_SchemaOnce.j0 k t157 t158 t159 t160 t161 false)))))) = some r := H
  have A5 := Aside0.mk A50
  clear A50
  replace H := Option.bind_eq_some_iff.mp H
  obtain ⟨t159, A60, H⟩ := H
  replace H : ((schema_Int.f t157).bind fun t160 => ((schema_Float.f k t157).bind fun t161 => (if t158 = true then (if t159 = true then (scholiumlaw08_SchemaOnce.j0 k t157 t158 t159 t160 t161 true) else (if t160 = true then (scholiumlaw08_SchemaOnce.j0 k t157 t158 t159 t160 t161 true) else (if t161 = true then (scholiumlaw08_SchemaOnce.j0 k t157 t158 t159 t160 t161 true) else (scholiumlaw08_SchemaOnce.j0 k t157 t158 t159 t160 t161 false)))) else (if t159 = true then (if t160 = true then (scholiumlaw08_SchemaOnce.j0 k t157 t158 t159 t160 t161 true) else (scholiumlaw08_SchemaOnce.j0 k t157 t158 t159 t160 t161 t161)) else (scholiumlaw08_SchemaOnce.j0 k t157 t158 t159 t160 t161 false))))) = some r := H
  have A6 := Aside0.mk A60
  clear A60
  replace H := Option.bind_eq_some_iff.mp H
  obtain ⟨t160, A70, H⟩ := H
  replace H : ((schema_Float.f k t157).bind fun t161 => (if t158 = true then (if t159 = true then (scholiumlaw08_SchemaOnce.j0 k t157 t158 t159 t160 t161 true) else (if t160 = true then (scholiumlaw08_SchemaOnce.j0 k t157 t158 t159 t160 t161 true) else (if t161 = true then (scholiumlaw08_SchemaOnce.j0 k t157 t158 t159 t160 t161 true) else (scholiumlaw08_SchemaOnce.j0 k t157 t158 t159 t160 t161 false)))) else (if t159 = true then (if t160 = true then (scholiumlaw08_SchemaOnce.j0 k t157 t158 t159 t160 t161 true) else (scholiumlaw08_SchemaOnce.j0 k t157 t158 t159 t160 t161 t161)) else (scholiumlaw08_SchemaOnce.j0 k t157 t158 t159 t160 t161 false)))) = some r := H
  have A7 := Aside0.mk A70
  clear A70
  replace H := Option.bind_eq_some_iff.mp H
  obtain ⟨t161, A80, H⟩ := H
  replace H : (if t158 = true then (if t159 = true then (scholiumlaw08_SchemaOnce.j0 k t157 t158 t159 t160 t161 true) else (if t160 = true then (scholiumlaw08_SchemaOnce.j0 k t157 t158 t159 t160 t161 true) else (if t161 = true then (scholiumlaw08_SchemaOnce.j0 k t157 t158 t159 t160 t161 true) else (scholiumlaw08_SchemaOnce.j0 k t157 t158 t159 t160 t161 false)))) else (if t159 = true then (if t160 = true then (scholiumlaw08_SchemaOnce.j0 k t157 t158 t159 t160 t161 true) else (scholiumlaw08_SchemaOnce.j0 k t157 t158 t159 t160 t161 t161)) else (scholiumlaw08_SchemaOnce.j0 k t157 t158 t159 t160 t161 false))) = some r := H
  have A8 := Aside0.mk A80
  clear A80
  have HC9 := Aside0.mk H
  clear H
  go_enter Try.func4, Try.ntmps4
  go_upto_region 3 with (first | ((with_reducible refine gate_callee (f := 14) rfl ?_); refine goesL_ (some 16) rfl rfl Try.func14 (by kernel_rfl) rfl #[.string a0, .slice A1 l1.length c1, .bool a2] rfl (by (try simp only [List.map_toArray, List.map_cons, List.map_nil]); first | done | rfl | (simp only [List.length_drop, List.length_take]; rfl)) ?_; (with_reducible refine (scholiumlaw08_text.calls k a0 _ _ l1 a2 t157 _ ?side1 ?side2 A4.out).mono ?_); (case side1 => repeat (first | exact HR1.out | (with_reducible refine Kd.C_alloc ?_ _) | (with_reducible refine Kd.C_drewN ?_ _) | (with_reducible refine Kd.C_drew ?_))); (case side2 => exact HC1.out); rintro e w10 ⟨rfl, hb⟩; refine ⟨_, rfl, ?_⟩; have n0_ := Aside0.mk (below_step (by repeat (first | (with_reducible first | exact HB.out | apply below_alloc | apply pw_below_drewN | apply below_drew1) | exact HB.out)) hb); clear HB; have HB := n0_; clear n0_; (try clear hb); (try clear hb2); (try clear hk); (try clear hi)) | ((with_reducible refine gate_callee (f := 15) rfl ?_); refine goesL_ (some 18) rfl rfl Try.func15 (by kernel_rfl) rfl #[.string t157] rfl (by (try simp only [List.map_toArray, List.map_cons, List.map_nil]); first | done | rfl | (simp only [List.length_drop, List.length_take]; rfl)) ?_; (with_reducible refine (schema_Null.calls k t157 t158 _ A5.out).mono ?_); rintro e w11 ⟨rfl, hb⟩; refine ⟨_, rfl, ?_⟩; have n0_ := Aside0.mk (below_step (by repeat (first | (with_reducible first | exact HB.out | apply below_alloc | apply pw_below_drewN | apply below_drew1) | exact HB.out)) hb); clear HB; have HB := n0_; clear n0_; (try clear hb); (try clear hb2); (try clear hk); (try clear hi)) | ((with_reducible refine gate_callee (f := 16) rfl ?_); refine goesL_ (some 20) rfl rfl Try.func16 (by kernel_rfl) rfl #[.string t157] rfl (by (try simp only [List.map_toArray, List.map_cons, List.map_nil]); first | done | rfl | (simp only [List.length_drop, List.length_take]; rfl)) ?_; (with_reducible refine (schema_Bool.calls k t157 t159 _ A6.out).mono ?_); rintro e w12 ⟨rfl, hb⟩; refine ⟨_, rfl, ?_⟩; have n0_ := Aside0.mk (below_step (by repeat (first | (with_reducible first | exact HB.out | apply below_alloc | apply pw_below_drewN | apply below_drew1) | exact HB.out)) hb); clear HB; have HB := n0_; clear n0_; (try clear hb); (try clear hb2); (try clear hk); (try clear hi)) | ((with_reducible refine gate_callee (f := 17) rfl ?_); refine goesL_ (some 22) rfl rfl Try.func17 (by kernel_rfl) rfl #[.string t157] rfl (by (try simp only [List.map_toArray, List.map_cons, List.map_nil]); first | done | rfl | (simp only [List.length_drop, List.length_take]; rfl)) ?_; (with_reducible refine (schema_Int.calls t157 t160 _ A7.out).mono ?_); rintro e w13 ⟨rfl, hb⟩; refine ⟨_, rfl, ?_⟩; have n0_ := Aside0.mk (below_step (by repeat (first | (with_reducible first | exact HB.out | apply below_alloc | apply pw_below_drewN | apply below_drew1) | exact HB.out)) hb); clear HB; have HB := n0_; clear n0_; (try clear hb); (try clear hb2); (try clear hk); (try clear hi)) | ((with_reducible refine gate_callee (f := 18) rfl ?_); refine goesL_ (some 24) rfl rfl Try.func18 (by kernel_rfl) rfl #[.string t157] rfl (by (try simp only [List.map_toArray, List.map_cons, List.map_nil]); first | done | rfl | (simp only [List.length_drop, List.length_take]; rfl)) ?_; (with_reducible refine (schema_Float.calls k t157 t161 _ A8.out).mono ?_); rintro e w14 ⟨rfl, hb⟩; refine ⟨_, rfl, ?_⟩; have n0_ := Aside0.mk (below_step (by repeat (first | (with_reducible first | exact HB.out | apply below_alloc | apply pw_below_drewN | apply below_drew1) | exact HB.out)) hb); clear HB; have HB := n0_; clear n0_; (try clear hb); (try clear hb2); (try clear hk); (try clear hi)))
  (try simp only [Act.put, List.setIfInBounds_toArray, List.set_cons_zero, List.set_cons_succ])
  go_cut [43] (fun v43 wc => ∃ (kq : Nat) (x43_8 : Bool), v43 = .bool x43_8 ∧ Aside0 (scholiumlaw08_SchemaOnce.j0 kq t157 t158 t159 t160 t161 x43_8 = some r) ∧ Aside0 (kq ≤ k) ∧ Aside0 (Below w.heap.size w wc))
  case first =>
    have H := HC9.out
    clear HC9
    by_cases c15 : t158 = true
    · subst c15
      have H1 : (if t159 = true then (scholiumlaw08_SchemaOnce.j0 k t157 true t159 t160 t161 true) else (if t160 = true then (scholiumlaw08_SchemaOnce.j0 k t157 true t159 t160 t161 true) else (if t161 = true then (scholiumlaw08_SchemaOnce.j0 k t157 true t159 t160 t161 true) else (scholiumlaw08_SchemaOnce.j0 k t157 true t159 t160 t161 false)))) = some r := by rw [if_pos rfl] at H; exact H
      clear H
      have H := H1
      clear H1
      by_cases c16 : t159 = true
      · subst c16
        have H1 : (scholiumlaw08_SchemaOnce.j0 k t157 true true t160 t161 true) = some r := by rw [if_pos rfl] at H; exact H
        clear H
        have H := H1
        clear H1
        have H' := Aside0.mk H
        clear H
        go_wp2
        go_meet
        case rel => exact ⟨_, (true), (by first | rfl | (simp; done) | (simp [*]; done)), H', ⟨by first | omega | exact Nat.le_refl _⟩, ⟨by repeat (first | (with_reducible first | exact HB.out | apply below_alloc | apply pw_below_drewN | apply below_drew1) | exact HB.out)⟩⟩
      · replace c16 := Bool.eq_false_iff.mpr c16
        subst c16
        have H1 : (if t160 = true then (scholiumlaw08_SchemaOnce.j0 k t157 true false t160 t161 true) else (if t161 = true then (scholiumlaw08_SchemaOnce.j0 k t157 true false t160 t161 true) else (scholiumlaw08_SchemaOnce.j0 k t157 true false t160 t161 false))) = some r := by rw [if_neg (show ¬ (false = true) by decide)] at H; exact H
        clear H
        have H := H1
        clear H1
        by_cases c17 : t160 = true
        · subst c17
          have H1 : (scholiumlaw08_SchemaOnce.j0 k t157 true false true t161 true) = some r := by rw [if_pos rfl] at H; exact H
          clear H
          have H := H1
          clear H1
          have H' := Aside0.mk H
          clear H
          go_wp2
          go_meet
          case rel => exact ⟨_, (true), (by first | rfl | (simp; done) | (simp [*]; done)), H', ⟨by first | omega | exact Nat.le_refl _⟩, ⟨by repeat (first | (with_reducible first | exact HB.out | apply below_alloc | apply pw_below_drewN | apply below_drew1) | exact HB.out)⟩⟩
        · replace c17 := Bool.eq_false_iff.mpr c17
          subst c17
          have H1 : (if t161 = true then (scholiumlaw08_SchemaOnce.j0 k t157 true false false t161 true) else (scholiumlaw08_SchemaOnce.j0 k t157 true false false t161 false)) = some r := by rw [if_neg (show ¬ (false = true) by decide)] at H; exact H
          clear H
          have H := H1
          clear H1
          by_cases c18 : t161 = true
          · subst c18
            have H1 : (scholiumlaw08_SchemaOnce.j0 k t157 true false false true true) = some r := by rw [if_pos rfl] at H; exact H
            clear H
            have H := H1
            clear H1
            have H' := Aside0.mk H
            clear H
            go_wp2
            go_meet
            case rel => exact ⟨_, (true), (by first | rfl | (simp; done) | (simp [*]; done)), H', ⟨by first | omega | exact Nat.le_refl _⟩, ⟨by repeat (first | (with_reducible first | exact HB.out | apply below_alloc | apply pw_below_drewN | apply below_drew1) | exact HB.out)⟩⟩
          · replace c18 := Bool.eq_false_iff.mpr c18
            subst c18
            have H1 : (scholiumlaw08_SchemaOnce.j0 k t157 true false false false false) = some r := by rw [if_neg (show ¬ (false = true) by decide)] at H; exact H
            clear H
            have H := H1
            clear H1
            have H' := Aside0.mk H
            clear H
            go_wp2
            go_meet
            case rel => exact ⟨_, (false), (by first | rfl | (simp; done) | (simp [*]; done)), H', ⟨by first | omega | exact Nat.le_refl _⟩, ⟨by repeat (first | (with_reducible first | exact HB.out | apply below_alloc | apply pw_below_drewN | apply below_drew1) | exact HB.out)⟩⟩
    · replace c15 := Bool.eq_false_iff.mpr c15
      subst c15
      have H1 : (if t159 = true then (if t160 = true then (scholiumlaw08_SchemaOnce.j0 k t157 false t159 t160 t161 true) else (scholiumlaw08_SchemaOnce.j0 k t157 false t159 t160 t161 t161)) else (scholiumlaw08_SchemaOnce.j0 k t157 false t159 t160 t161 false)) = some r := by rw [if_neg (show ¬ (false = true) by decide)] at H; exact H
      clear H
      have H := H1
      clear H1
      by_cases c19 : t159 = true
      · subst c19
        have H1 : (if t160 = true then (scholiumlaw08_SchemaOnce.j0 k t157 false true t160 t161 true) else (scholiumlaw08_SchemaOnce.j0 k t157 false true t160 t161 t161)) = some r := by rw [if_pos rfl] at H; exact H
        clear H
        have H := H1
        clear H1
        by_cases c20 : t160 = true
        · subst c20
          have H1 : (scholiumlaw08_SchemaOnce.j0 k t157 false true true t161 true) = some r := by rw [if_pos rfl] at H; exact H
          clear H
          have H := H1
          clear H1
          have H' := Aside0.mk H
          clear H
          go_wp2
          go_meet
          case rel => exact ⟨_, (true), (by first | rfl | (simp; done) | (simp [*]; done)), H', ⟨by first | omega | exact Nat.le_refl _⟩, ⟨by repeat (first | (with_reducible first | exact HB.out | apply below_alloc | apply pw_below_drewN | apply below_drew1) | exact HB.out)⟩⟩
        · replace c20 := Bool.eq_false_iff.mpr c20
          subst c20
          have H1 : (scholiumlaw08_SchemaOnce.j0 k t157 false true false t161 t161) = some r := by rw [if_neg (show ¬ (false = true) by decide)] at H; exact H
          clear H
          have H := H1
          clear H1
          have H' := Aside0.mk H
          clear H
          go_wp2
          go_meet
          case rel => exact ⟨_, (t161), (by first | rfl | (simp; done) | (simp [*]; done)), H', ⟨by first | omega | exact Nat.le_refl _⟩, ⟨by repeat (first | (with_reducible first | exact HB.out | apply below_alloc | apply pw_below_drewN | apply below_drew1) | exact HB.out)⟩⟩
      · replace c19 := Bool.eq_false_iff.mpr c19
        subst c19
        have H1 : (scholiumlaw08_SchemaOnce.j0 k t157 false false t160 t161 false) = some r := by rw [if_neg (show ¬ (false = true) by decide)] at H; exact H
        clear H
        have H := H1
        clear H1
        have H' := Aside0.mk H
        clear H
        go_wp2
        go_meet
        case rel => exact ⟨_, (false), (by first | rfl | (simp; done) | (simp [*]; done)), H', ⟨by first | omega | exact Nat.le_refl _⟩, ⟨by repeat (first | (with_reducible first | exact HB.out | apply below_alloc | apply pw_below_drewN | apply below_drew1) | exact HB.out)⟩⟩
  case rest =>
    clear HC9
    try clear c1
    try clear c2
    try clear p2
    try clear c4
    try clear c14
    try clear c15
    try clear c16
    try clear c17
    try clear c18
    try clear c19
    try clear c20
    obtain ⟨kq, x43_8, rfl, HA, HJ8, HB⟩ := hcut
    cases kq with
    | zero => exact absurd HA.out (by simp [scholiumlaw08_SchemaOnce.j0])
    | succ kj8 =>
      have H := HA.out
      clear HA
      simp only [scholiumlaw08_SchemaOnce.j0] at H
      by_cases c21 : x43_8 = true
      · subst c21
        have H1 : (some false) = some r := by rw [if_pos rfl] at H; exact H
        clear H
        have H := H1
        clear H1
        obtain rfl := Option.some.inj H
        go_wp2
        go_ret
        exact ⟨by first | rfl | (simp [errW_none, errW_some] <;> rfl) | (simp [*, errW_none, errW_some] <;> rfl), by repeat (first | (with_reducible first | exact HB.out | apply below_alloc | apply pw_below_drewN | apply below_drew1) | exact HB.out)⟩
      · replace c21 := Bool.eq_false_iff.mpr c21
        subst c21
        have H1 : (if t158 = true then ((schema_Resolve.f kj8 t157).bind fun t162 => (if t162.toList = ([33, 33, 110, 117, 108, 108] : List UInt8) then ((scholiumlaw08_wakes.f kj8).bind fun t163 => (some t163)) else (some false))) else (if t159 = true then ((schema_Resolve.f kj8 t157).bind fun t164 => (if t164.toList = ([33, 33, 98, 111, 111, 108] : List UInt8) then ((scholiumlaw08_wakes.f kj8).bind fun t165 => (some t165)) else (some false))) else (if t160 = true then ((schema_Resolve.f kj8 t157).bind fun t166 => (if t166.toList = ([33, 33, 105, 110, 116] : List UInt8) then ((scholiumlaw08_wakes.f kj8).bind fun t167 => (some t167)) else (some false))) else (if t161 = true then ((schema_Resolve.f kj8 t157).bind fun t168 => (if t168.toList = ([33, 33, 102, 108, 111, 97, 116] : List UInt8) then ((scholiumlaw08_wakes.f kj8).bind fun t169 => (some t169)) else (some false))) else ((schema_Resolve.f kj8 t157).bind fun t170 => (if t170.toList = ([33, 33, 115, 116, 114] : List UInt8) then ((scholiumlaw08_wakes.f kj8).bind fun t171 => (some t171)) else (some false))))))) = some r := by rw [if_neg (show ¬ (false = true) by decide)] at H; exact H
        clear H
        have H := H1
        clear H1
        by_cases c22 : t158 = true
        · subst c22
          have H1 : ((schema_Resolve.f kj8 t157).bind fun t162 => (if t162.toList = ([33, 33, 110, 117, 108, 108] : List UInt8) then ((scholiumlaw08_wakes.f kj8).bind fun t163 => (some t163)) else (some false))) = some r := by rw [if_pos rfl] at H; exact H
          clear H
          have H := H1
          clear H1
          replace H := Option.bind_eq_some_iff.mp H
          obtain ⟨t162, A230, H⟩ := H
          replace H : (if t162.toList = ([33, 33, 110, 117, 108, 108] : List UInt8) then ((scholiumlaw08_wakes.f kj8).bind fun t163 => (some t163)) else (some false)) = some r := H
          have A23 := Aside0.mk A230
          clear A230
          by_cases c24 : t162.toList = ([33, 33, 110, 117, 108, 108] : List UInt8)
          · rw [if_pos c24] at H
            have c24b0 : (t162.toList == ([33, 33, 110, 117, 108, 108] : List UInt8)) = true := beq_iff_eq.mpr c24
            have c24b1 : (t162.toList != ([33, 33, 110, 117, 108, 108] : List UInt8)) = false := bne_eq_false_iff_eq.mpr c24
            clear c24
            replace H := Option.bind_eq_some_iff.mp H
            obtain ⟨t163, A250, H⟩ := H
            replace H : (some t163) = some r := H
            have A25 := Aside0.mk A250
            clear A250
            obtain rfl := Option.some.inj H
            go_wp2_with (first | ((with_reducible refine gate_callee (f := 12) rfl ?_); refine goesL_ (some 53) rfl rfl Try.func12 (by kernel_rfl) rfl #[.string t157] rfl (by (try simp only [List.map_toArray, List.map_cons, List.map_nil]); first | done | rfl | (simp only [List.length_drop, List.length_take]; rfl)) ?_; (with_reducible refine (schema_Resolve.calls kj8 t157 t162 _ A23.out).mono ?_); rintro e w26 ⟨rfl, hb⟩; refine ⟨_, rfl, ?_⟩; have n0_ := Aside0.mk (below_step (by repeat (first | (with_reducible first | exact HB.out | apply below_alloc | apply pw_below_drewN | apply below_drew1) | exact HB.out)) hb); clear HB; have HB := n0_; clear n0_; (try clear hb); (try clear hb2); (try clear hk); (try clear hi)) | (go_at_call 13; (with_reducible refine (scholiumlaw08_wakes.calls kj8  t163 _ A25.out).mono ?_); rintro e w27 ⟨rfl, hb⟩; have n0_ := Aside0.mk (below_step (by repeat (first | (with_reducible first | exact HB.out | apply below_alloc | apply pw_below_drewN | apply below_drew1) | exact HB.out)) hb); clear HB; have HB := n0_; clear n0_; (try clear hb); (try clear hb2); (try clear hk); (try clear hi)))
            go_ret
            exact ⟨by first | rfl | (simp [errW_none, errW_some] <;> rfl) | (simp [*, errW_none, errW_some] <;> rfl), by repeat (first | (with_reducible first | exact HB.out | apply below_alloc | apply pw_below_drewN | apply below_drew1) | exact HB.out)⟩
          · rw [if_neg c24] at H
            have c24b0 : (t162.toList == ([33, 33, 110, 117, 108, 108] : List UInt8)) = false := beq_eq_false_iff_ne.mpr c24
            have c24b1 : (t162.toList != ([33, 33, 110, 117, 108, 108] : List UInt8)) = true := bne_iff_ne.mpr c24
            obtain rfl := Option.some.inj H
            go_wp2_with (first | ((with_reducible refine gate_callee (f := 12) rfl ?_); refine goesL_ (some 53) rfl rfl Try.func12 (by kernel_rfl) rfl #[.string t157] rfl (by (try simp only [List.map_toArray, List.map_cons, List.map_nil]); first | done | rfl | (simp only [List.length_drop, List.length_take]; rfl)) ?_; (with_reducible refine (schema_Resolve.calls kj8 t157 t162 _ A23.out).mono ?_); rintro e w28 ⟨rfl, hb⟩; refine ⟨_, rfl, ?_⟩; have n0_ := Aside0.mk (below_step (by repeat (first | (with_reducible first | exact HB.out | apply below_alloc | apply pw_below_drewN | apply below_drew1) | exact HB.out)) hb); clear HB; have HB := n0_; clear n0_; (try clear hb); (try clear hb2); (try clear hk); (try clear hi)))
            go_ret
            exact ⟨by first | rfl | (simp [errW_none, errW_some] <;> rfl) | (simp [*, errW_none, errW_some] <;> rfl), by repeat (first | (with_reducible first | exact HB.out | apply below_alloc | apply pw_below_drewN | apply below_drew1) | exact HB.out)⟩
        · replace c22 := Bool.eq_false_iff.mpr c22
          subst c22
          have H1 : (if t159 = true then ((schema_Resolve.f kj8 t157).bind fun t164 => (if t164.toList = ([33, 33, 98, 111, 111, 108] : List UInt8) then ((scholiumlaw08_wakes.f kj8).bind fun t165 => (some t165)) else (some false))) else (if t160 = true then ((schema_Resolve.f kj8 t157).bind fun t166 => (if t166.toList = ([33, 33, 105, 110, 116] : List UInt8) then ((scholiumlaw08_wakes.f kj8).bind fun t167 => (some t167)) else (some false))) else (if t161 = true then ((schema_Resolve.f kj8 t157).bind fun t168 => (if t168.toList = ([33, 33, 102, 108, 111, 97, 116] : List UInt8) then ((scholiumlaw08_wakes.f kj8).bind fun t169 => (some t169)) else (some false))) else ((schema_Resolve.f kj8 t157).bind fun t170 => (if t170.toList = ([33, 33, 115, 116, 114] : List UInt8) then ((scholiumlaw08_wakes.f kj8).bind fun t171 => (some t171)) else (some false)))))) = some r := by rw [if_neg (show ¬ (false = true) by decide)] at H; exact H
          clear H
          have H := H1
          clear H1
          by_cases c29 : t159 = true
          · subst c29
            have H1 : ((schema_Resolve.f kj8 t157).bind fun t164 => (if t164.toList = ([33, 33, 98, 111, 111, 108] : List UInt8) then ((scholiumlaw08_wakes.f kj8).bind fun t165 => (some t165)) else (some false))) = some r := by rw [if_pos rfl] at H; exact H
            clear H
            have H := H1
            clear H1
            replace H := Option.bind_eq_some_iff.mp H
            obtain ⟨t164, A300, H⟩ := H
            replace H : (if t164.toList = ([33, 33, 98, 111, 111, 108] : List UInt8) then ((scholiumlaw08_wakes.f kj8).bind fun t165 => (some t165)) else (some false)) = some r := H
            have A30 := Aside0.mk A300
            clear A300
            by_cases c31 : t164.toList = ([33, 33, 98, 111, 111, 108] : List UInt8)
            · rw [if_pos c31] at H
              have c31b0 : (t164.toList == ([33, 33, 98, 111, 111, 108] : List UInt8)) = true := beq_iff_eq.mpr c31
              have c31b1 : (t164.toList != ([33, 33, 98, 111, 111, 108] : List UInt8)) = false := bne_eq_false_iff_eq.mpr c31
              clear c31
              replace H := Option.bind_eq_some_iff.mp H
              obtain ⟨t165, A320, H⟩ := H
              replace H : (some t165) = some r := H
              have A32 := Aside0.mk A320
              clear A320
              obtain rfl := Option.some.inj H
              go_wp2_with (first | ((with_reducible refine gate_callee (f := 12) rfl ?_); refine goesL_ (some 53) rfl rfl Try.func12 (by kernel_rfl) rfl #[.string t157] rfl (by (try simp only [List.map_toArray, List.map_cons, List.map_nil]); first | done | rfl | (simp only [List.length_drop, List.length_take]; rfl)) ?_; (with_reducible refine (schema_Resolve.calls kj8 t157 t164 _ A30.out).mono ?_); rintro e w33 ⟨rfl, hb⟩; refine ⟨_, rfl, ?_⟩; have n0_ := Aside0.mk (below_step (by repeat (first | (with_reducible first | exact HB.out | apply below_alloc | apply pw_below_drewN | apply below_drew1) | exact HB.out)) hb); clear HB; have HB := n0_; clear n0_; (try clear hb); (try clear hb2); (try clear hk); (try clear hi)) | (go_at_call 13; (with_reducible refine (scholiumlaw08_wakes.calls kj8  t165 _ A32.out).mono ?_); rintro e w34 ⟨rfl, hb⟩; have n0_ := Aside0.mk (below_step (by repeat (first | (with_reducible first | exact HB.out | apply below_alloc | apply pw_below_drewN | apply below_drew1) | exact HB.out)) hb); clear HB; have HB := n0_; clear n0_; (try clear hb); (try clear hb2); (try clear hk); (try clear hi)))
              go_ret
              exact ⟨by first | rfl | (simp [errW_none, errW_some] <;> rfl) | (simp [*, errW_none, errW_some] <;> rfl), by repeat (first | (with_reducible first | exact HB.out | apply below_alloc | apply pw_below_drewN | apply below_drew1) | exact HB.out)⟩
            · rw [if_neg c31] at H
              have c31b0 : (t164.toList == ([33, 33, 98, 111, 111, 108] : List UInt8)) = false := beq_eq_false_iff_ne.mpr c31
              have c31b1 : (t164.toList != ([33, 33, 98, 111, 111, 108] : List UInt8)) = true := bne_iff_ne.mpr c31
              obtain rfl := Option.some.inj H
              go_wp2_with (first | ((with_reducible refine gate_callee (f := 12) rfl ?_); refine goesL_ (some 53) rfl rfl Try.func12 (by kernel_rfl) rfl #[.string t157] rfl (by (try simp only [List.map_toArray, List.map_cons, List.map_nil]); first | done | rfl | (simp only [List.length_drop, List.length_take]; rfl)) ?_; (with_reducible refine (schema_Resolve.calls kj8 t157 t164 _ A30.out).mono ?_); rintro e w35 ⟨rfl, hb⟩; refine ⟨_, rfl, ?_⟩; have n0_ := Aside0.mk (below_step (by repeat (first | (with_reducible first | exact HB.out | apply below_alloc | apply pw_below_drewN | apply below_drew1) | exact HB.out)) hb); clear HB; have HB := n0_; clear n0_; (try clear hb); (try clear hb2); (try clear hk); (try clear hi)))
              go_ret
              exact ⟨by first | rfl | (simp [errW_none, errW_some] <;> rfl) | (simp [*, errW_none, errW_some] <;> rfl), by repeat (first | (with_reducible first | exact HB.out | apply below_alloc | apply pw_below_drewN | apply below_drew1) | exact HB.out)⟩
          · replace c29 := Bool.eq_false_iff.mpr c29
            subst c29
            have H1 : (if t160 = true then ((schema_Resolve.f kj8 t157).bind fun t166 => (if t166.toList = ([33, 33, 105, 110, 116] : List UInt8) then ((scholiumlaw08_wakes.f kj8).bind fun t167 => (some t167)) else (some false))) else (if t161 = true then ((schema_Resolve.f kj8 t157).bind fun t168 => (if t168.toList = ([33, 33, 102, 108, 111, 97, 116] : List UInt8) then ((scholiumlaw08_wakes.f kj8).bind fun t169 => (some t169)) else (some false))) else ((schema_Resolve.f kj8 t157).bind fun t170 => (if t170.toList = ([33, 33, 115, 116, 114] : List UInt8) then ((scholiumlaw08_wakes.f kj8).bind fun t171 => (some t171)) else (some false))))) = some r := by rw [if_neg (show ¬ (false = true) by decide)] at H; exact H
            clear H
            have H := H1
            clear H1
            by_cases c36 : t160 = true
            · subst c36
              have H1 : ((schema_Resolve.f kj8 t157).bind fun t166 => (if t166.toList = ([33, 33, 105, 110, 116] : List UInt8) then ((scholiumlaw08_wakes.f kj8).bind fun t167 => (some t167)) else (some false))) = some r := by rw [if_pos rfl] at H; exact H
              clear H
              have H := H1
              clear H1
              replace H := Option.bind_eq_some_iff.mp H
              obtain ⟨t166, A370, H⟩ := H
              replace H : (if t166.toList = ([33, 33, 105, 110, 116] : List UInt8) then ((scholiumlaw08_wakes.f kj8).bind fun t167 => (some t167)) else (some false)) = some r := H
              have A37 := Aside0.mk A370
              clear A370
              by_cases c38 : t166.toList = ([33, 33, 105, 110, 116] : List UInt8)
              · rw [if_pos c38] at H
                have c38b0 : (t166.toList == ([33, 33, 105, 110, 116] : List UInt8)) = true := beq_iff_eq.mpr c38
                have c38b1 : (t166.toList != ([33, 33, 105, 110, 116] : List UInt8)) = false := bne_eq_false_iff_eq.mpr c38
                clear c38
                replace H := Option.bind_eq_some_iff.mp H
                obtain ⟨t167, A390, H⟩ := H
                replace H : (some t167) = some r := H
                have A39 := Aside0.mk A390
                clear A390
                obtain rfl := Option.some.inj H
                go_wp2_with (first | ((with_reducible refine gate_callee (f := 12) rfl ?_); refine goesL_ (some 53) rfl rfl Try.func12 (by kernel_rfl) rfl #[.string t157] rfl (by (try simp only [List.map_toArray, List.map_cons, List.map_nil]); first | done | rfl | (simp only [List.length_drop, List.length_take]; rfl)) ?_; (with_reducible refine (schema_Resolve.calls kj8 t157 t166 _ A37.out).mono ?_); rintro e w40 ⟨rfl, hb⟩; refine ⟨_, rfl, ?_⟩; have n0_ := Aside0.mk (below_step (by repeat (first | (with_reducible first | exact HB.out | apply below_alloc | apply pw_below_drewN | apply below_drew1) | exact HB.out)) hb); clear HB; have HB := n0_; clear n0_; (try clear hb); (try clear hb2); (try clear hk); (try clear hi)) | (go_at_call 13; (with_reducible refine (scholiumlaw08_wakes.calls kj8  t167 _ A39.out).mono ?_); rintro e w41 ⟨rfl, hb⟩; have n0_ := Aside0.mk (below_step (by repeat (first | (with_reducible first | exact HB.out | apply below_alloc | apply pw_below_drewN | apply below_drew1) | exact HB.out)) hb); clear HB; have HB := n0_; clear n0_; (try clear hb); (try clear hb2); (try clear hk); (try clear hi)))
                go_ret
                exact ⟨by first | rfl | (simp [errW_none, errW_some] <;> rfl) | (simp [*, errW_none, errW_some] <;> rfl), by repeat (first | (with_reducible first | exact HB.out | apply below_alloc | apply pw_below_drewN | apply below_drew1) | exact HB.out)⟩
              · rw [if_neg c38] at H
                have c38b0 : (t166.toList == ([33, 33, 105, 110, 116] : List UInt8)) = false := beq_eq_false_iff_ne.mpr c38
                have c38b1 : (t166.toList != ([33, 33, 105, 110, 116] : List UInt8)) = true := bne_iff_ne.mpr c38
                obtain rfl := Option.some.inj H
                go_wp2_with (first | ((with_reducible refine gate_callee (f := 12) rfl ?_); refine goesL_ (some 53) rfl rfl Try.func12 (by kernel_rfl) rfl #[.string t157] rfl (by (try simp only [List.map_toArray, List.map_cons, List.map_nil]); first | done | rfl | (simp only [List.length_drop, List.length_take]; rfl)) ?_; (with_reducible refine (schema_Resolve.calls kj8 t157 t166 _ A37.out).mono ?_); rintro e w42 ⟨rfl, hb⟩; refine ⟨_, rfl, ?_⟩; have n0_ := Aside0.mk (below_step (by repeat (first | (with_reducible first | exact HB.out | apply below_alloc | apply pw_below_drewN | apply below_drew1) | exact HB.out)) hb); clear HB; have HB := n0_; clear n0_; (try clear hb); (try clear hb2); (try clear hk); (try clear hi)))
                go_ret
                exact ⟨by first | rfl | (simp [errW_none, errW_some] <;> rfl) | (simp [*, errW_none, errW_some] <;> rfl), by repeat (first | (with_reducible first | exact HB.out | apply below_alloc | apply pw_below_drewN | apply below_drew1) | exact HB.out)⟩
            · replace c36 := Bool.eq_false_iff.mpr c36
              subst c36
              have H1 : (if t161 = true then ((schema_Resolve.f kj8 t157).bind fun t168 => (if t168.toList = ([33, 33, 102, 108, 111, 97, 116] : List UInt8) then ((scholiumlaw08_wakes.f kj8).bind fun t169 => (some t169)) else (some false))) else ((schema_Resolve.f kj8 t157).bind fun t170 => (if t170.toList = ([33, 33, 115, 116, 114] : List UInt8) then ((scholiumlaw08_wakes.f kj8).bind fun t171 => (some t171)) else (some false)))) = some r := by rw [if_neg (show ¬ (false = true) by decide)] at H; exact H
              clear H
              have H := H1
              clear H1
              by_cases c43 : t161 = true
              · subst c43
                have H1 : ((schema_Resolve.f kj8 t157).bind fun t168 => (if t168.toList = ([33, 33, 102, 108, 111, 97, 116] : List UInt8) then ((scholiumlaw08_wakes.f kj8).bind fun t169 => (some t169)) else (some false))) = some r := by rw [if_pos rfl] at H; exact H
                clear H
                have H := H1
                clear H1
                replace H := Option.bind_eq_some_iff.mp H
                obtain ⟨t168, A440, H⟩ := H
                replace H : (if t168.toList = ([33, 33, 102, 108, 111, 97, 116] : List UInt8) then ((scholiumlaw08_wakes.f kj8).bind fun t169 => (some t169)) else (some false)) = some r := H
                have A44 := Aside0.mk A440
                clear A440
                by_cases c45 : t168.toList = ([33, 33, 102, 108, 111, 97, 116] : List UInt8)
                · rw [if_pos c45] at H
                  have c45b0 : (t168.toList == ([33, 33, 102, 108, 111, 97, 116] : List UInt8)) = true := beq_iff_eq.mpr c45
                  have c45b1 : (t168.toList != ([33, 33, 102, 108, 111, 97, 116] : List UInt8)) = false := bne_eq_false_iff_eq.mpr c45
                  clear c45
                  replace H := Option.bind_eq_some_iff.mp H
                  obtain ⟨t169, A460, H⟩ := H
                  replace H : (some t169) = some r := H
                  have A46 := Aside0.mk A460
                  clear A460
                  obtain rfl := Option.some.inj H
                  go_wp2_with (first | ((with_reducible refine gate_callee (f := 12) rfl ?_); refine goesL_ (some 53) rfl rfl Try.func12 (by kernel_rfl) rfl #[.string t157] rfl (by (try simp only [List.map_toArray, List.map_cons, List.map_nil]); first | done | rfl | (simp only [List.length_drop, List.length_take]; rfl)) ?_; (with_reducible refine (schema_Resolve.calls kj8 t157 t168 _ A44.out).mono ?_); rintro e w47 ⟨rfl, hb⟩; refine ⟨_, rfl, ?_⟩; have n0_ := Aside0.mk (below_step (by repeat (first | (with_reducible first | exact HB.out | apply below_alloc | apply pw_below_drewN | apply below_drew1) | exact HB.out)) hb); clear HB; have HB := n0_; clear n0_; (try clear hb); (try clear hb2); (try clear hk); (try clear hi)) | (go_at_call 13; (with_reducible refine (scholiumlaw08_wakes.calls kj8  t169 _ A46.out).mono ?_); rintro e w48 ⟨rfl, hb⟩; have n0_ := Aside0.mk (below_step (by repeat (first | (with_reducible first | exact HB.out | apply below_alloc | apply pw_below_drewN | apply below_drew1) | exact HB.out)) hb); clear HB; have HB := n0_; clear n0_; (try clear hb); (try clear hb2); (try clear hk); (try clear hi)))
                  go_ret
                  exact ⟨by first | rfl | (simp [errW_none, errW_some] <;> rfl) | (simp [*, errW_none, errW_some] <;> rfl), by repeat (first | (with_reducible first | exact HB.out | apply below_alloc | apply pw_below_drewN | apply below_drew1) | exact HB.out)⟩
                · rw [if_neg c45] at H
                  have c45b0 : (t168.toList == ([33, 33, 102, 108, 111, 97, 116] : List UInt8)) = false := beq_eq_false_iff_ne.mpr c45
                  have c45b1 : (t168.toList != ([33, 33, 102, 108, 111, 97, 116] : List UInt8)) = true := bne_iff_ne.mpr c45
                  obtain rfl := Option.some.inj H
                  go_wp2_with (first | ((with_reducible refine gate_callee (f := 12) rfl ?_); refine goesL_ (some 53) rfl rfl Try.func12 (by kernel_rfl) rfl #[.string t157] rfl (by (try simp only [List.map_toArray, List.map_cons, List.map_nil]); first | done | rfl | (simp only [List.length_drop, List.length_take]; rfl)) ?_; (with_reducible refine (schema_Resolve.calls kj8 t157 t168 _ A44.out).mono ?_); rintro e w49 ⟨rfl, hb⟩; refine ⟨_, rfl, ?_⟩; have n0_ := Aside0.mk (below_step (by repeat (first | (with_reducible first | exact HB.out | apply below_alloc | apply pw_below_drewN | apply below_drew1) | exact HB.out)) hb); clear HB; have HB := n0_; clear n0_; (try clear hb); (try clear hb2); (try clear hk); (try clear hi)))
                  go_ret
                  exact ⟨by first | rfl | (simp [errW_none, errW_some] <;> rfl) | (simp [*, errW_none, errW_some] <;> rfl), by repeat (first | (with_reducible first | exact HB.out | apply below_alloc | apply pw_below_drewN | apply below_drew1) | exact HB.out)⟩
              · replace c43 := Bool.eq_false_iff.mpr c43
                subst c43
                have H1 : ((schema_Resolve.f kj8 t157).bind fun t170 => (if t170.toList = ([33, 33, 115, 116, 114] : List UInt8) then ((scholiumlaw08_wakes.f kj8).bind fun t171 => (some t171)) else (some false))) = some r := by rw [if_neg (show ¬ (false = true) by decide)] at H; exact H
                clear H
                have H := H1
                clear H1
                replace H := Option.bind_eq_some_iff.mp H
                obtain ⟨t170, A500, H⟩ := H
                replace H : (if t170.toList = ([33, 33, 115, 116, 114] : List UInt8) then ((scholiumlaw08_wakes.f kj8).bind fun t171 => (some t171)) else (some false)) = some r := H
                have A50 := Aside0.mk A500
                clear A500
                by_cases c51 : t170.toList = ([33, 33, 115, 116, 114] : List UInt8)
                · rw [if_pos c51] at H
                  have c51b0 : (t170.toList == ([33, 33, 115, 116, 114] : List UInt8)) = true := beq_iff_eq.mpr c51
                  have c51b1 : (t170.toList != ([33, 33, 115, 116, 114] : List UInt8)) = false := bne_eq_false_iff_eq.mpr c51
                  clear c51
                  replace H := Option.bind_eq_some_iff.mp H
                  obtain ⟨t171, A520, H⟩ := H
                  replace H : (some t171) = some r := H
                  have A52 := Aside0.mk A520
                  clear A520
                  obtain rfl := Option.some.inj H
                  go_wp2_with (first | ((with_reducible refine gate_callee (f := 12) rfl ?_); refine goesL_ (some 53) rfl rfl Try.func12 (by kernel_rfl) rfl #[.string t157] rfl (by (try simp only [List.map_toArray, List.map_cons, List.map_nil]); first | done | rfl | (simp only [List.length_drop, List.length_take]; rfl)) ?_; (with_reducible refine (schema_Resolve.calls kj8 t157 t170 _ A50.out).mono ?_); rintro e w53 ⟨rfl, hb⟩; refine ⟨_, rfl, ?_⟩; have n0_ := Aside0.mk (below_step (by repeat (first | (with_reducible first | exact HB.out | apply below_alloc | apply pw_below_drewN | apply below_drew1) | exact HB.out)) hb); clear HB; have HB := n0_; clear n0_; (try clear hb); (try clear hb2); (try clear hk); (try clear hi)) | (go_at_call 13; (with_reducible refine (scholiumlaw08_wakes.calls kj8  t171 _ A52.out).mono ?_); rintro e w54 ⟨rfl, hb⟩; have n0_ := Aside0.mk (below_step (by repeat (first | (with_reducible first | exact HB.out | apply below_alloc | apply pw_below_drewN | apply below_drew1) | exact HB.out)) hb); clear HB; have HB := n0_; clear n0_; (try clear hb); (try clear hb2); (try clear hk); (try clear hi)))
                  go_ret
                  exact ⟨by first | rfl | (simp [errW_none, errW_some] <;> rfl) | (simp [*, errW_none, errW_some] <;> rfl), by repeat (first | (with_reducible first | exact HB.out | apply below_alloc | apply pw_below_drewN | apply below_drew1) | exact HB.out)⟩
                · rw [if_neg c51] at H
                  have c51b0 : (t170.toList == ([33, 33, 115, 116, 114] : List UInt8)) = false := beq_eq_false_iff_ne.mpr c51
                  have c51b1 : (t170.toList != ([33, 33, 115, 116, 114] : List UInt8)) = true := bne_iff_ne.mpr c51
                  obtain rfl := Option.some.inj H
                  go_wp2_with (first | ((with_reducible refine gate_callee (f := 12) rfl ?_); refine goesL_ (some 53) rfl rfl Try.func12 (by kernel_rfl) rfl #[.string t157] rfl (by (try simp only [List.map_toArray, List.map_cons, List.map_nil]); first | done | rfl | (simp only [List.length_drop, List.length_take]; rfl)) ?_; (with_reducible refine (schema_Resolve.calls kj8 t157 t170 _ A50.out).mono ?_); rintro e w55 ⟨rfl, hb⟩; refine ⟨_, rfl, ?_⟩; have n0_ := Aside0.mk (below_step (by repeat (first | (with_reducible first | exact HB.out | apply below_alloc | apply pw_below_drewN | apply below_drew1) | exact HB.out)) hb); clear HB; have HB := n0_; clear n0_; (try clear hb); (try clear hb2); (try clear hk); (try clear hi)))
                  go_ret
                  exact ⟨by first | rfl | (simp [errW_none, errW_some] <;> rfl) | (simp [*, errW_none, errW_some] <;> rfl), by repeat (first | (with_reducible first | exact HB.out | apply below_alloc | apply pw_below_drewN | apply below_drew1) | exact HB.out)⟩

/-- THE ONE PURE STATEMENT of scholiumlaw08_SchemaOnce: yours. -/
def scholiumlaw08_SchemaOnce.Pure : Prop := ∀ (a0 : ByteArray) (l1 : List Int) (a2 : Bool), a0.size ≤ 140737488351232 → l1.length ≤ maxLen → l1.length * 8 ≤ 140737488351232 → (∀ x ∈ l1, (Lit.int .i64 x).wf = true) → ∃ k, scholiumlaw08_SchemaOnce.f k a0 l1 a2 = some true
theorem scholiumlaw08_SchemaOnce.walk (P : scholiumlaw08_SchemaOnce.Pure) (a0 : ByteArray) (a1 : Option Addr) (len1 cap1 : Nat) (z1 : List Int) (a2 : Bool) (w : World) (w0 : a0.size ≤ 140737488351232) (w1 : (a1 = none ∧ len1 = 0 ∧ cap1 = 0 ∧ z1 = []) ∨ ∃ x, a1 = some x ∧ len1 ≤ cap1 ∧ cap1 ≤ maxLen ∧ z1.length = cap1 ∧ (∀ i, i < z1.length → w.cell? (x.add i) = some (.int .i64 (z1.getD i 0))) ∧ ∀ n ∈ z1, (Lit.int .i64 n).wf = true) (y1 : len1 * 8 ≤ 140737488351232) :
    Calls Try.prog 4 #[.string a0, .slice a1 len1 cap1, .bool a2] w fun e w' => e = .returned (.bool true) ∧ Below w.heap.size w w' := by
  obtain ⟨l1, rfl, hr1, hm1, hw1, hc1⟩ := ReadsInt.ofRowC w1
  obtain ⟨k, h⟩ := P a0 l1 a2 w0 hm1 y1 hw1
  refine (scholiumlaw08_SchemaOnce.calls k a0 _ _ l1 a2 true w (Kd.C_of_reads (d := (0 : Int)) (h1 := fun _ => rfl) hr1) hc1 h).mono ?_
  rintro e w' ⟨rfl, hd⟩
  exact ⟨rfl, hd⟩

end Go.Proofs.Ytoahbekcegcghaa.XSchemaOnce
