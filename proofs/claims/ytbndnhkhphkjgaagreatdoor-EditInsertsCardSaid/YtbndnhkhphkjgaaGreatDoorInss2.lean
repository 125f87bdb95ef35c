/- EditInserts: the law's walk, by the machine: whatever the argument, it returns true and nothing that was there has turned. -/
import Derived.Test.YtbndnhkhphkjgaaGreatDoorInssp
import Derived.Test.YtbndnhkhphkjgaaGreatDoorInsst0
import Derived.Test.YtbndnhkhphkjgaaGreatDoorInsst1
import Derived.Test.YtbndnhkhphkjgaaGreatDoorInsst2
import Derived.Test.YtbndnhkhphkjgaaGreatDoorInsst3
import Derived.Test.YtbndnhkhphkjgaaGreatDoorInsst4
import Derived.Test.YtbndnhkhphkjgaaGreatDoorInsst5
import Derived.Test.YtbndnhkhphkjgaaGreatDoorInsst6
import Derived.Test.YtbndnhkhphkjgaaGreatDoorInsst7
import Derived.Test.YtbndnhkhphkjgaaGreatDoorInsst8
import Derived.Test.YtbndnhkhphkjgaaGreatDoorInsst9
import Derived.Test.YtbndnhkhphkjgaaGreatDoorInsst10
import Derived.Test.YtbndnhkhphkjgaaGreatDoorInsst11
import Derived.Test.YtbndnhkhphkjgaaGreatDoorInsst12
namespace Go.Proofs.YtbndnhkhphkjgaaGreatDoor.InssF
open Go.Vai
set_option linter.unusedVariables false
set_option maxRecDepth 1000000
theorem body : Tryz.f5.body = some lb := by kernel_rfl
theorem nt : Tryz.f5.ntmps = 130 := by kernel_rfl
theorem res : Tryz.f5.results.toList = [.tmp 2] := by kernel_rfl
theorem law_calls (a : Int) (w : World) : Calls P 5 #[.int .i64 a] w fun e w' => e = .returned (.bool true) ∧
    (w'.os = w.os ∧ w'.tape = w.tape ∧ w'.output = w.output ∧ w.heap.size ≤ w'.heap.size ∧ ∀ k, k < w.heap.size → w'.heap[k]? = w.heap[k]?) := by
  have hr := winm_range 8 (by decide) a
  have hmix : P.follows .mixedOrders = true := plainP.mixed
  letI : Lane := ⟨(winm 8 a).toNat, fun _ => a, by show _ < 8; omega, []⟩
  have G0 : GlobOk glN noEmb w := ⟨(fun _ _ z => by cases z), fun p hp => by cases hp⟩
  have hkok : CallOk P 0 glN hk := by
    refine hk2_ok (hk2_ok (hk2_ok (insA_ok (fun us w => enters plainP Tryz.func181 (by kernel_rfl) us w) Insw181.room Insw181.grow) (insA_ok (fun us w => enters plainP Tryz.func182 (by kernel_rfl) us w) Insw182.room Insw182.grow))
      (hk2_ok (repeatA_ok (fun us w => enters plainP Tryz.func115 (by kernel_rfl) us w) Tryz.strings_Repeat) (dputA_ok (fun us w => enters plainP Tryz.func210 (by kernel_rfl) us w) put_ok)))
      (winF_ok (fun us w => enters plainP Tryz.func9 (by kernel_rfl) us w) (fun m a w h0 h1 => withinm_calls m a w h0 h1) ?_)
    intro p hp
    have hp' : p = (0, 8, ints (List.range 8)) := by simpa using hp
    subst hp'
    refine ⟨(show 0 < 8 by decide), (show 8 ≤ 1000 by decide), fun φ w => ?_⟩
    show VR φ w (ints (List.range 8)) (.int .i64 (winm 8 a))
    have hw : winm 8 a = Int.ofNat (winm 8 a).toNat := by show _ = ((winm 8 a).toNat : Int); omega
    rw [hw]
    refine ints_ok ?_ φ w
    show (List.range 8)[(winm 8 a).toNat]? = _
    exact List.getElem?_range (by omega)
  have hcl : CallOk P 0 glN cl := fun f args h r e => call_ok plainP hkok 100000 80 f args h r (by rw [← callF_eq]; exact e)
  have hs : RoundsOk P cl 100000 130 lp stA [] [[(69, .int .i64 1)], [(69, .int .i64 2)], [(69, .int .i64 3)], [(69, .int .i64 4)], [(69, .int .i64 5)], [(69, .int .i64 6)], [(69, .int .i64 7)], [(69, .int .i64 8)], [(69, .int .i64 9)], [(69, .int .i64 10)], [(69, .int .i64 11)], [(69, .int .i64 12)], [(69, .int .i64 13)], [(69, .int .i64 14)], [(69, .int .i64 15)], [(69, .int .i64 16)], [(69, .int .i64 17)]] :=
    ⟨rd1_0, by decide, rd1_1, by decide, rd1_2, by decide, rd1_3, by decide, rd1_4, by decide, rd1_5, by decide, rd1_6, by decide, rd1_7, by decide, rd1_8, by decide, rd1_9, by decide, rd1_10, by decide, rd1_11, by decide, rd1_12, by decide, rd1_13, by decide, rd1_14, by decide, rd1_15, by decide, rd1_16, by decide, trivial⟩
  have hs2 : RoundsOk P cl 100000 130 lp2 stB [] [[(106, .int .i64 1)], [(106, .int .i64 2)], [(106, .int .i64 3)], [(106, .int .i64 4)], [(106, .int .i64 5)]] :=
    ⟨rd2_0, by decide, rd2_1, by decide, rd2_2, by decide, rd2_3, by decide, rd2_4, by decide, trivial⟩
  exact law_rounds2 hcl hmix Tryz.func5 body nt res (by simp) (by simp) shape G0 (.cons (.arg 0) .nil) (by decide) (show stG P cl 100000 130 [r0, r1, r2] [3, 67, 68, 69] [.arg 0] = stA from rfl) hs (show midG P cl 100000 130 lp 0 [r9] [104, 105, 106] stA [(69, .int .i64 17)] = stB from rfl) hs2 rend
end Go.Proofs.YtbndnhkhphkjgaaGreatDoor.InssF
