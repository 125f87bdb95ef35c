/- The calls of Within at the law's own arguments, at whatever bound: answered beforehand. -/
import Derived.Test.YtjnpggeibjbfmaaGreatDoorProg
import Derived.Test.YtjnpggeibjbfmaaGreatDoorYaiE
import Derived.WalkKit
import Derived.Tactics
import Derived.KernelRfl
import Derived.IntWalk
namespace Go.Vai
set_option linter.unusedVariables false
def winm (m : Nat) (a : Int) : Int := if Int.tmod a m < 0 then Int.tmod a m + m else Int.tmod a m
/-- the answers: the argument's place, the bound, what comes -/
def winF : List (Nat × Nat × AV) → List AV → Heap → Option (AV × Heap)
  | [], _, _ => none
  | p :: l, args, h => (match args with
    | [.arg i, .int .i64 (.ofNat k)] => cond (Nat.beq i p.1 && Nat.beq k p.2.1) (some (p.2.2, h)) (winF l args h)
    | _ => none)
theorem winF_ok [Lane] {P : Program} {base : Nat} {f : Nat} {glob : Nat → Option AV} (hen : ∀ us w, (callFunc f us).run P w = .ok (.enter f us) w)
    (hw : ∀ (m : Nat) (a : Int) (w : World), 0 < m → m ≤ 1000 → Calls P f #[.int .i64 a, .int .i64 m] w (fun e w' => e = .returned (.int .i64 (winm m a)) ∧ w' = w)) {l : List (Nat × Nat × AV)}
    (hl : ∀ p ∈ l, 0 < p.2.1 ∧ p.2.1 ≤ 1000 ∧ ∀ φ w, VR φ w p.2.2 (.int .i64 (winm p.2.1 (Lane.arg p.1)))) : CallOk P base glob (hkF f (winF l)) := by
  refine hkF_ok hen ?_
  intro args h r e φ w us H G hl2
  induction l with
  | nil => cases e
  | cons p l ih =>
    unfold winF at e
    split at e
    case h_2 => cases e
    rename_i i k
    cases q : (Nat.beq i p.1 && Nat.beq k p.2.1) with
    | false =>
      rw [q, cond_false] at e
      exact ih (fun p' hp' => hl p' (by simp [hp'])) e
    | true =>
      rw [q, cond_true] at e
      cases e
      simp only [Bool.and_eq_true, Nat.beq_eq] at q
      obtain ⟨rfl, rfl⟩ := q
      obtain ⟨k1, k2, k3⟩ := hl p (by simp)
      obtain ⟨us⟩ := us
      cases hl2 with
      | cons h1 ht =>
      cases ht with
      | cons h2 ht =>
      cases ht
      cases h1
      cases h2
      refine (hw p.2.1 (Lane.arg p.1) w k1 k2).mono ?_
      rintro _ w' ⟨rfl, rfl⟩
      exact ⟨_, φ, rfl, Step.refl H, k3 φ w'⟩
end Go.Vai
namespace Go.Proofs.YtjnpggeibjbfmaaGreatDoor
open Go.Vai Go.IntWalk Go.RowKit
set_option linter.unusedVariables false
set_option linter.unusedSimpArgs false
theorem winm_range (m : Nat) (h0 : 0 < m) (a : Int) : 0 ≤ winm m a ∧ winm m a < m := by
  unfold winm
  have h1 : Int.tmod a m < m := Int.tmod_lt_of_pos a (by omega)
  have h2 : -(m : Int) < Int.tmod a m := by
    have := Int.tmod_lt_of_pos (-a) (show (0:Int) < m by omega)
    rw [Int.neg_tmod] at this
    omega
  split <;> omega
set_option maxHeartbeats 4000000 in
set_option maxRecDepth 100000 in
theorem withinm_calls (m : Nat) (a : Int) (w : World) (hm0 : 0 < m) (hm1 : m ≤ 1000) : Calls Tryz.prog 6 #[.int .i64 a, .int .i64 m] w fun e w' => e = .returned (.int .i64 (winm m a)) ∧ w' = w := by
  have d1 : decide ((m : Int) < 1) = false := decide_eq_false (by omega)
  have d2 : ¬ ((m : Int) = 0) := by omega
  have d3 : ((m : Int) == 0) = false := by simp; omega
  have h1 : Int.tmod a m < m := Int.tmod_lt_of_pos a (by omega)
  have h2 : -(m : Int) < Int.tmod a m := by
    have := Int.tmod_lt_of_pos (-a) (show (0:Int) < m by omega)
    rw [Int.neg_tmod] at this
    omega
  by_cases c : Int.tmod a m < 0
  · have hw : winm m a = Int.tmod a m + m := by unfold winm; rw [if_pos c]
    have hwr : wrap64 (Int.tmod a m + m) = Int.tmod a m + m := by unfold wrap64; omega
    have c' : decide (Int.tmod a m < 0) = true := decide_eq_true c
    rw [hw]
    go_enter Tryz.func6, Tryz.ntmps6
    go_wp2
    go_ret
    exact ⟨by simp [hwr], rfl⟩
  · have hw : winm m a = Int.tmod a m := by unfold winm; rw [if_neg c]
    have c' : decide (Int.tmod a m < 0) = false := decide_eq_false c
    rw [hw]
    go_enter Tryz.func6, Tryz.ntmps6
    go_wp2
    go_ret
    exact ⟨by simp, rfl⟩
end Go.Proofs.YtjnpggeibjbfmaaGreatDoor
