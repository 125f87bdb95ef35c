/- The call of Within at a number that is known. -/
import Derived.Test.YtbndnhkhphkjgaaGreatDoorProg
import Derived.Test.YtbndnhkhphkjgaaGreatDoorVai20
import Derived.WalkKit
import Derived.Tactics
import Derived.KernelRfl
import Derived.IntWalk
namespace Go.Proofs.YtbndnhkhphkjgaaGreatDoor
open Go.Vai Go.IntWalk Go.RowKit
set_option linter.unusedVariables false
set_option linter.unusedSimpArgs false
def win (a : Int) : Int := if Int.tmod a 8 < 0 then Int.tmod a 8 + 8 else Int.tmod a 8
theorem win_range (a : Int) : 0 ≤ win a ∧ win a < 8 := by
  unfold win
  have h1 : Int.tmod a 8 < 8 := Int.tmod_lt_of_pos a (by decide)
  have h2 : -8 < Int.tmod a 8 := by
    have := Int.tmod_lt_of_pos (-a) (show (0:Int) < 8 by decide)
    rw [Int.neg_tmod] at this
    omega
  split <;> omega
set_option maxHeartbeats 4000000 in
set_option maxRecDepth 100000 in
theorem within_calls (a : Int) (w : World) : Calls Tryz.prog 9 #[.int .i64 a, .int .i64 8] w fun e w' => e = .returned (.int .i64 (win a)) ∧ w' = w := by
  by_cases c : Int.tmod a 8 < 0
  · have hw : win a = Int.tmod a 8 + 8 := by unfold win; rw [if_pos c]
    have h2 : -8 < Int.tmod a 8 := by
      have := Int.tmod_lt_of_pos (-a) (show (0:Int) < 8 by decide)
      rw [Int.neg_tmod] at this
      omega
    have hwr : wrap64 (Int.tmod a 8 + 8) = Int.tmod a 8 + 8 := by unfold wrap64; omega
    have c' : decide (Int.tmod a 8 < 0) = true := decide_eq_true c
    rw [hw]
    go_enter Tryz.func9, Tryz.ntmps9
    go_wp2
    go_ret
    exact ⟨by simp [hwr], rfl⟩
  · have hw : win a = Int.tmod a 8 := by unfold win; rw [if_neg c]
    have c' : decide (Int.tmod a 8 < 0) = false := decide_eq_false c
    rw [hw]
    go_enter Tryz.func9, Tryz.ntmps9
    go_wp2
    go_ret
    exact ⟨by simp, rfl⟩
end Go.Proofs.YtbndnhkhphkjgaaGreatDoor
