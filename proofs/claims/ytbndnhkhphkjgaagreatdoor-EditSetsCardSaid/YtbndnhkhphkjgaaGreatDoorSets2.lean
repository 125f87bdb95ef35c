/- EditSets: the law's walk, by the machine: whatever the argument, it returns true and nothing that was there has turned. -/
import Derived.Test.YtbndnhkhphkjgaaGreatDoorSetst0
import Derived.Test.YtbndnhkhphkjgaaGreatDoorSetst1
import Derived.Test.YtbndnhkhphkjgaaGreatDoorSetst2
import Derived.Test.YtbndnhkhphkjgaaGreatDoorSetst3
import Derived.Test.YtbndnhkhphkjgaaGreatDoorSetst4
import Derived.Test.YtbndnhkhphkjgaaGreatDoorSetst5
import Derived.Test.YtbndnhkhphkjgaaGreatDoorSetst6
import Derived.Test.YtbndnhkhphkjgaaGreatDoorSetst7
import Derived.Test.YtbndnhkhphkjgaaGreatDoorSetst8
import Derived.Test.YtbndnhkhphkjgaaGreatDoorWin
namespace Go.Proofs.YtbndnhkhphkjgaaGreatDoor.SetsF
open Go.Vai
set_option linter.unusedVariables false
set_option maxRecDepth 1000000
theorem plainP : Plain P := by
  refine ⟨fun f fn hf => ?_, by kernel_rfl⟩
  have h : (P.funcs.toList.all fun fn => !(fn.name == "runtime.NumGoroutine")) = true := by kernel_rfl
  have := List.all_eq_true.1 h fn (by simpa using Array.mem_of_getElem? hf)
  simpa using this
theorem win_call (a : Int) (w : World) : (callFunc 9 #[.int .i64 a, .int .i64 8]).run P w = .ok (.enter 9 #[.int .i64 a, .int .i64 8]) w ∧ Calls P 9 #[.int .i64 a, .int .i64 8] w (fun e w' => e = .returned (.int .i64 (win a)) ∧ w' = w) :=
  ⟨enters plainP Tryz.func9 (by kernel_rfl) _ w, within_calls a w⟩
theorem body : Tryz.f4.body = some lb := by kernel_rfl
theorem nt : Tryz.f4.ntmps = 138 := by kernel_rfl
theorem res : Tryz.f4.results.toList = [.tmp 2] := by kernel_rfl
theorem hk_ok [Lane] : CallOk P 0 glN hk := joinA_ok (fun us w => enters plainP Tryz.func238 (by kernel_rfl) us w) Tryz.strings_Join
theorem law_calls (a : Int) (w : World) : Calls P 4 #[.int .i64 a] w fun e w' => e = .returned (.bool true) ∧
    (w'.os = w.os ∧ w'.tape = w.tape ∧ w'.output = w.output ∧ w.heap.size ≤ w'.heap.size ∧ ∀ k, k < w.heap.size → w'.heap[k]? = w.heap[k]?) := by
  have hr := win_range a
  have hmix : P.follows .mixedOrders = true := plainP.mixed
  letI : Lane := ⟨(win a).toNat, fun _ => a, by show _ < 8; omega, []⟩
  have hcl : CallOk P 0 glN cl := by
    refine callW_ok (x := .int .i64 (win a)) (fun w => win_call a w) (fun φ w => ?_) (fun f args h r e => call_ok plainP hk_ok 100000 80 f args h r (by rw [← callF_eq]; exact e))
    have hw : win a = Int.ofNat (win a).toNat := by show _ = ((win a).toNat : Int); omega
    rw [hw]
    refine ints_ok ?_ φ w
    show [0, 1, 2, 3, 4, 5, 6, 7][(win a).toNat]? = _
    have : (win a).toNat < 8 := by omega
    generalize (win a).toNat = x at this
    have : x = 0 ∨ x = 1 ∨ x = 2 ∨ x = 3 ∨ x = 4 ∨ x = 5 ∨ x = 6 ∨ x = 7 := by omega
    rcases this with rfl|rfl|rfl|rfl|rfl|rfl|rfl|rfl <;> rfl
  have hs : RoundsOk P cl 100000 138 lp stA [] [[(114, .int .i64 1)], [(114, .int .i64 2)], [(114, .int .i64 3)], [(114, .int .i64 4)], [(114, .int .i64 5)], [(114, .int .i64 6)], [(114, .int .i64 7)], [(114, .int .i64 8)], [(114, .int .i64 9)], [(114, .int .i64 10)], [(114, .int .i64 11)], [(114, .int .i64 12)], [(114, .int .i64 13)], [(114, .int .i64 14)], [(114, .int .i64 15)], [(114, .int .i64 16)]] :=
    ⟨rd0, by decide, rd1, by decide, rd2, by decide, rd3, by decide, rd4, by decide, rd5, by decide, rd6, by decide, rd7, by decide, rd8, by decide, rd9, by decide, rd10, by decide, rd11, by decide, rd12, by decide, rd13, by decide, rd14, by decide, rd15, by decide, trivial⟩
  exact law_rounds hcl hmix Tryz.func4 body nt res (by simp) shape ⟨(fun _ _ z => by cases z), (fun _ z => by cases z)⟩ (.cons (.arg 0) .nil) (by decide) (show stG P cl 100000 138 [r0, r1, r2] [112, 113, 114] [.arg 0] = stA from rfl) hs rend
end Go.Proofs.YtbndnhkhphkjgaaGreatDoor.SetsF
