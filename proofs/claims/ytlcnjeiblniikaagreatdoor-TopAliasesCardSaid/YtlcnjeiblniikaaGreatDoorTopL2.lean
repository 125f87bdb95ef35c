/- TopAliases: the law's walk, by the machine: whatever the arguments, it returns true and nothing that was there has turned. -/
import Derived.Test.YtlcnjeiblniikaaGreatDoorTopK0
import Derived.Test.YtlcnjeiblniikaaGreatDoorTopK1
import Derived.Test.YtlcnjeiblniikaaGreatDoorTopK2
import Derived.Test.YtlcnjeiblniikaaGreatDoorTopK3
import Derived.Test.YtlcnjeiblniikaaGreatDoorTopK4
import Derived.Test.YtlcnjeiblniikaaGreatDoorTopK5
import Derived.Test.YtlcnjeiblniikaaGreatDoorTopK6
import Derived.Test.YtlcnjeiblniikaaGreatDoorWin
namespace Go.Proofs.YtlcnjeiblniikaaGreatDoor.TopF
open Go.Vai
set_option linter.unusedVariables false
set_option maxRecDepth 1000000
theorem plainP : Plain P := by
  refine ⟨fun f fn hf => ?_, by kernel_rfl⟩
  have h : (P.funcs.toList.all fun fn => !(fn.name == "runtime.NumGoroutine")) = true := by kernel_rfl
  have := List.all_eq_true.1 h fn (by simpa using Array.mem_of_getElem? hf)
  simpa using this
theorem win_call (a : Int) (w : World) : (callFunc 12 #[.int .i64 a, .int .i64 8]).run P w = .ok (.enter 12 #[.int .i64 a, .int .i64 8]) w ∧ Calls P 12 #[.int .i64 a, .int .i64 8] w (fun e w' => e = .returned (.int .i64 (win a)) ∧ w' = w) :=
  ⟨enters plainP Tryz.func12 (by kernel_rfl) _ w, within_calls a w⟩
theorem body : Tryz.f11.body = some lb := by kernel_rfl
theorem nt : Tryz.f11.ntmps = 185 := by kernel_rfl
theorem res : Tryz.f11.results.toList = [.tmp 4] := by kernel_rfl
theorem law_calls (a : Int) (b : Bool) (w : World) : Calls P 11 #[.int .i64 a, .bool b] w fun e w' => e = .returned (.bool true) ∧
    (w'.os = w.os ∧ w'.tape = w.tape ∧ w'.output = w.output ∧ w.heap.size ≤ w'.heap.size ∧ ∀ k, k < w.heap.size → w'.heap[k]? = w.heap[k]?) := by
  have hr := win_range a
  have hmix : P.follows .mixedOrders = true := plainP.mixed
  letI : Lane := ⟨(win a).toNat, fun _ => a, by show _ < 8; omega⟩
  have hcl : CallOk P 0 glN cl := by
    refine callW_ok (x := .int .i64 (win a)) (fun w => win_call a w) (fun φ w => ?_) (fun f args h r e => call_ok plainP 100000 80 f args h r (by rw [← callF_eq]; exact e))
    have hw : win a = Int.ofNat (win a).toNat := by show _ = ((win a).toNat : Int); omega
    rw [hw]
    refine ints_ok ?_ φ w
    show [0, 1, 2, 3, 4, 5, 6, 7][(win a).toNat]? = _
    have : (win a).toNat < 8 := by omega
    generalize (win a).toNat = x at this
    have : x = 0 ∨ x = 1 ∨ x = 2 ∨ x = 3 ∨ x = 4 ∨ x = 5 ∨ x = 6 ∨ x = 7 := by omega
    rcases this with rfl|rfl|rfl|rfl|rfl|rfl|rfl|rfl <;> rfl
  cases b with
  | false => exact law_go hcl hmix Tryz.func11 body nt res (s1 := sF0) (l := [([pc 5], sF1), ([pc 6], sF2), ([pc 7], sF3), ([pc 8], sF4), ([pc 9], sF5), ([pc 10, pc 11, pc 12, pc 13, pc 14], sF6)]) (re := re) shape (.cons (.arg 0) (.cons (.bool false) .nil)) (by decide) stF ⟨goF0, goF1, goF2, goF3, goF4, goF5, trivial⟩ enF
  | true => exact law_go hcl hmix Tryz.func11 body nt res (s1 := sT0) (l := [([pc 5], sT1), ([pc 6], sT2), ([pc 7], sT3), ([pc 8], sT4), ([pc 9], sT5), ([pc 10, pc 11, pc 12, pc 13, pc 14], sT6)]) (re := re) shape (.cons (.arg 0) (.cons (.bool true) .nil)) (by decide) stT ⟨goT0, goT1, goT2, goT3, goT4, goT5, trivial⟩ enT
end Go.Proofs.YtlcnjeiblniikaaGreatDoor.TopF
