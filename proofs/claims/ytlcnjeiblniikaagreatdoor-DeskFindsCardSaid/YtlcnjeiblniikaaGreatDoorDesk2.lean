/- DeskFinds: the law's walk, by the machine: whatever the argument, it returns true and nothing that was there has turned. -/
import Derived.Test.YtlcnjeiblniikaaGreatDoorDesks0
import Derived.Test.YtlcnjeiblniikaaGreatDoorDesks1
import Derived.Test.YtlcnjeiblniikaaGreatDoorDesks2
import Derived.Test.YtlcnjeiblniikaaGreatDoorDesks3
import Derived.Test.YtlcnjeiblniikaaGreatDoorDesks4
import Derived.Test.YtlcnjeiblniikaaGreatDoorDesks5
import Derived.Test.YtlcnjeiblniikaaGreatDoorDesks6
import Derived.Test.YtlcnjeiblniikaaGreatDoorDesks7
import Derived.Test.YtlcnjeiblniikaaGreatDoorWin
namespace Go.Proofs.YtlcnjeiblniikaaGreatDoor.DeskF
open Go.Vai
set_option linter.unusedVariables false
set_option maxRecDepth 1000000
theorem plainP : Plain P := by
  refine ⟨fun f fn hf => ?_, by kernel_rfl⟩
  have h : (P.funcs.toList.all fun fn => !(fn.name == "runtime.NumGoroutine")) = true := by kernel_rfl
  have := List.all_eq_true.1 h fn (by simpa using Array.mem_of_getElem? hf)
  simpa using this
theorem win_call (a : Int) (w : World) : (callFunc 12 #[.int .i64 a, .int .i64 8]).run P w = .ok (.enter 12 #[.int .i64 a, .int .i64 8]) w ∧ Calls P 12 #[.int .i64 a, .int .i64 8] w (fun e w' => e = .returned (.int .i64 (win a)) ∧ w' = w) :=
  ⟨enters plainP Tryz.func12 (by kernel_rfl) _ w, within_calls a w⟩
theorem body : Tryz.f3.body = some lb := by kernel_rfl
theorem nt : Tryz.f3.ntmps = 80 := by kernel_rfl
theorem res : Tryz.f3.results.toList = [.tmp 2] := by kernel_rfl
theorem segR_some {P : Program} {cl : CallT} {N : Nat} {ops : Array Oper} {o : Option St} {off n : Nat} {t1 t2 : List (Nat × AV)} (e : segR P cl N ops o off n t1 t2 = true) : o.isSome = true := by
  cases o with
  | none => cases e
  | some s => rfl
theorem law_calls (a : Int) (w : World) : Calls P 3 #[.int .i64 a] w fun e w' => e = .returned (.bool true) ∧
    (w'.os = w.os ∧ w'.tape = w.tape ∧ w'.output = w.output ∧ w.heap.size ≤ w'.heap.size ∧ ∀ k, k < w.heap.size → w'.heap[k]? = w.heap[k]?) := by
  have hr := win_range a
  have hmix : P.follows .mixedOrders = true := plainP.mixed
  letI : Lane := ⟨(win a).toNat, fun _ => a, by show _ < 8; omega⟩
  have hcl : CallOk P 0 glN cl := by
    refine callW_ok (x := .int .i64 (win a)) (fun w => win_call a w) (fun φ w => ?_) (fun f args h r e => call_ok plainP 100000 80 f args h r (by rw [← callF_eq]; exact e))
    have hw : win a = Int.ofNat (win a).toNat := by show _ = ((win a).toNat : Int); omega
    rw [hw]
    refine ints_ok ?_ φ w
    show [0, 1, 2, 3, 4, 5, 6, 7][(win a).toNat]? = _
    have : (win a).toNat < 8 := by omega
    generalize (win a).toNat = x at this
    have : x = 0 ∨ x = 1 ∨ x = 2 ∨ x = 3 ∨ x = 4 ∨ x = 5 ∨ x = 6 ∨ x = 7 := by omega
    rcases this with rfl|rfl|rfl|rfl|rfl|rfl|rfl|rfl <;> rfl
  refine law_segs hcl hmix Tryz.func3 body nt res shape (.cons (.arg 0) .nil) (by decide) (show stG P cl 100000 80 [r0, r1, r2, r3] [2, 3, 4] [.arg 0] = stA from rfl)
    (segs := [(7, [(29, .bool true)]), (9, [(38, .bool true)]), (6, [(44, .bool true)]), (6, [(50, .bool true)]), (6, [(56, .bool true)]), (9, [(65, .bool true)]), (6, [(71, .bool true)]), (9, [(2, .bool true)])]) ?_ (segR_some seg0) rfl (by decide)
  exact ⟨seg0, by decide, seg1, by decide, seg2, by decide, seg3, by decide, seg4, by decide, seg5, by decide, seg6, by decide, seg7, by decide, size58.symm⟩
end Go.Proofs.YtlcnjeiblniikaaGreatDoor.DeskF
