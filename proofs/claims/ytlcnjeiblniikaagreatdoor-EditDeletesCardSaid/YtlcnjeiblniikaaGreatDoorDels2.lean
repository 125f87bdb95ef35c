/- EditDeletes: the law's walk, by the machine: whatever the argument, it returns true and nothing that was there has turned. -/
import Derived.Test.YtlcnjeiblniikaaGreatDoorDelt0
import Derived.Test.YtlcnjeiblniikaaGreatDoorDelt1
import Derived.Test.YtlcnjeiblniikaaGreatDoorDelt2
import Derived.Test.YtlcnjeiblniikaaGreatDoorDelt3
import Derived.Test.YtlcnjeiblniikaaGreatDoorDelt4
import Derived.Test.YtlcnjeiblniikaaGreatDoorDelt5
import Derived.Test.YtlcnjeiblniikaaGreatDoorDelt6
import Derived.Test.YtlcnjeiblniikaaGreatDoorDelt7
import Derived.Test.YtlcnjeiblniikaaGreatDoorDelt8
import Derived.Test.YtlcnjeiblniikaaGreatDoorDelt9
import Derived.Test.YtlcnjeiblniikaaGreatDoorDelt10
import Derived.Test.YtlcnjeiblniikaaGreatDoorWin
namespace Go.Proofs.YtlcnjeiblniikaaGreatDoor.DelF
open Go.Vai
set_option linter.unusedVariables false
set_option maxRecDepth 1000000
theorem plainP : Plain P := by
  refine ⟨fun f fn hf => ?_, by kernel_rfl⟩
  have h : (P.funcs.toList.all fun fn => !(fn.name == "runtime.NumGoroutine")) = true := by kernel_rfl
  have := List.all_eq_true.1 h fn (by simpa using Array.mem_of_getElem? hf)
  simpa using this
theorem win_call (a : Int) (w : World) : (callFunc 12 #[.int .i64 a, .int .i64 8]).run P w = .ok (.enter 12 #[.int .i64 a, .int .i64 8]) w ∧ Calls P 12 #[.int .i64 a, .int .i64 8] w (fun e w' => e = .returned (.int .i64 (win a)) ∧ w' = w) :=
  ⟨enters plainP Tryz.func12 (by kernel_rfl) _ w, within_calls a w⟩
theorem body : Tryz.f5.body = some lb := by kernel_rfl
theorem nt : Tryz.f5.ntmps = 106 := by kernel_rfl
theorem res : Tryz.f5.results.toList = [.tmp 2] := by kernel_rfl
theorem law_calls (a : Int) (w : World) : Calls P 5 #[.int .i64 a] w fun e w' => e = .returned (.bool true) ∧
    (w'.os = w.os ∧ w'.tape = w.tape ∧ w'.output = w.output ∧ w.heap.size ≤ w'.heap.size ∧ ∀ k, k < w.heap.size → w'.heap[k]? = w.heap[k]?) := by
  have hr := win_range a
  have hmix : P.follows .mixedOrders = true := plainP.mixed
  letI : Lane := ⟨(win a).toNat, fun _ => a, by show _ < 8; omega⟩
  have hcl : CallOk P 0 glN cl := by
    refine callW_ok (x := .int .i64 (win a)) (fun w => win_call a w) (fun φ w => ?_) (fun f args h r e => call_ok plainP 100000 80 f args h r (by rw [← callF_eq]; exact e))
    have hw : win a = Int.ofNat (win a).toNat := by show _ = ((win a).toNat : Int); omega
    rw [hw]
    refine ints_ok ?_ φ w
    show [0, 1, 2, 3, 4, 5, 6, 7][(win a).toNat]? = _
    have : (win a).toNat < 8 := by omega
    generalize (win a).toNat = x at this
    have : x = 0 ∨ x = 1 ∨ x = 2 ∨ x = 3 ∨ x = 4 ∨ x = 5 ∨ x = 6 ∨ x = 7 := by omega
    rcases this with rfl|rfl|rfl|rfl|rfl|rfl|rfl|rfl <;> rfl
  have hs : RoundsOk P cl 100000 106 lp stA [] [[(84, .int .i64 1)], [(84, .int .i64 2)], [(84, .int .i64 3)], [(84, .int .i64 4)], [(84, .int .i64 5)], [(84, .int .i64 6)], [(84, .int .i64 7)], [(84, .int .i64 8)], [(84, .int .i64 9)], [(84, .int .i64 10)], [(84, .int .i64 11)], [(84, .int .i64 12)], [(84, .int .i64 13)], [(84, .int .i64 14)], [(84, .int .i64 15)], [(84, .int .i64 16)], [(84, .int .i64 17)], [(84, .int .i64 18)]] :=
    ⟨rd0, by decide, rd1, by decide, rd2, by decide, rd3, by decide, rd4, by decide, rd5, by decide, rd6, by decide, rd7, by decide, rd8, by decide, rd9, by decide, rd10, by decide, rd11, by decide, rd12, by decide, rd13, by decide, rd14, by decide, rd15, by decide, rd16, by decide, rd17, by decide, trivial⟩
  exact law_rounds hcl hmix Tryz.func5 body nt res (by simp) shape (.cons (.arg 0) .nil) (by decide) (show stG P cl 100000 106 [r0, r1, r2] [82, 83, 84] [.arg 0] = stA from rfl) hs rend
end Go.Proofs.YtlcnjeiblniikaaGreatDoor.DelF
