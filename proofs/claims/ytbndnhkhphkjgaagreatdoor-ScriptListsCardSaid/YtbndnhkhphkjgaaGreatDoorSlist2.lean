/- ScriptLists: the law's walk, by the machine: whatever the arguments, it returns true and nothing that was there has turned. -/
import Derived.Test.YtbndnhkhphkjgaaGreatDoorSlistr
import Derived.Test.YtbndnhkhphkjgaaGreatDoorSlistt0
import Derived.Test.YtbndnhkhphkjgaaGreatDoorSlistt1
import Derived.Test.YtbndnhkhphkjgaaGreatDoorSlistt2
namespace Go.Proofs.YtbndnhkhphkjgaaGreatDoor.SlistF
open Go.Vai
set_option linter.unusedVariables false
set_option maxRecDepth 1000000
theorem plainP : Plain P := by
  refine ⟨fun f fn hf => ?_, by kernel_rfl⟩
  have h : (P.funcs.toList.all fun fn => !(fn.name == "runtime.NumGoroutine")) = true := by kernel_rfl
  have := List.all_eq_true.1 h fn (by simpa using Array.mem_of_getElem? hf)
  simpa using this
theorem body : Tryz.f6.body = some lb := by kernel_rfl
theorem nt : Tryz.f6.ntmps = 71 := by kernel_rfl
theorem res : Tryz.f6.results.toList = [.tmp 4] := by kernel_rfl
theorem cl0_ok [Lane] : CallOk P 0 glN cl0 := fun f args h r e => call_ok plainP (repeatA_ok (fun us w => enters plainP Tryz.func115 (by kernel_rfl) us w) Tryz.strings_Repeat) 100000 80 f args h r (by rw [← callF_eq]; exact e)
theorem es_ok : ∀ en ∈ es, entB cl0 17 en = true := (List.forall_mem_cons.2 ⟨e0, (List.forall_mem_cons.2 ⟨e1, (List.forall_mem_cons.2 ⟨e2, (List.forall_mem_cons.2 ⟨e3, (List.forall_mem_cons.2 ⟨e4, (List.forall_mem_cons.2 ⟨e5, (List.forall_mem_cons.2 ⟨e6, (List.forall_mem_cons.2 ⟨e7, (List.forall_mem_cons.2 ⟨e8, (List.forall_mem_cons.2 ⟨e9, (List.forall_mem_cons.2 ⟨e10, (List.forall_mem_cons.2 ⟨e11, (List.forall_mem_cons.2 ⟨e12, (List.forall_mem_cons.2 ⟨e13, (List.forall_mem_cons.2 ⟨e14, (List.forall_mem_cons.2 ⟨e15, (List.forall_mem_cons.2 ⟨e16, (List.forall_mem_cons.2 ⟨e17, (List.forall_mem_cons.2 ⟨e18, (List.forall_mem_cons.2 ⟨e19, (List.forall_mem_cons.2 ⟨e20, (fun _ h => by cases h)⟩)⟩)⟩)⟩)⟩)⟩)⟩)⟩)⟩)⟩)⟩)⟩)⟩)⟩)⟩)⟩)⟩)⟩)⟩)⟩)⟩)
theorem law_calls (a : Int) (b : Bool) (w : World) : Calls P 6 #[.int .i64 a, .bool b] w fun e w' => e = .returned (.bool true) ∧
    (w'.os = w.os ∧ w'.tape = w.tape ∧ w'.output = w.output ∧ w.heap.size ≤ w'.heap.size ∧ ∀ k, k < w.heap.size → w'.heap[k]? = w.heap[k]?) := by
  have hr := winm_range 6 (by decide) a
  have hmix : P.follows .mixedOrders = true := plainP.mixed
  letI : Lane := ⟨0, fun _ => a, by decide, []⟩
  have go : ∀ (j : Nat), winm 6 a = j → ∀ (b : Bool) , runB P (cl j) 100000 71 lb 4 [.arg 0, .bool b] = true → Calls P 6 #[.int .i64 a, .bool b] w fun e w' => e = .returned (.bool true) ∧
      (w'.os = w.os ∧ w'.tape = w.tape ∧ w'.output = w.output ∧ w.heap.size ≤ w'.heap.size ∧ ∀ k, k < w.heap.size → w'.heap[k]? = w.heap[k]?) := by
    intro j hj b hrun
    have hkok : CallOk P 0 glN (hk j) := by
      refine hk2_ok (tabA_ok cl0_ok es_ok) (winF_ok (fun us w => enters plainP Tryz.func9 (by kernel_rfl) us w) (fun m a w h0 h1 => withinm_calls m a w h0 h1) ?_)
      intro p hp
      have hp' : p = (0, 6, .int .i64 (.ofNat j)) := by simpa [wl] using hp
      subst hp'
      refine ⟨(show 0 < 6 by decide), (show 6 ≤ 1000 by decide), fun φ w => ?_⟩
      show VR φ w (.int .i64 (.ofNat j)) (.int .i64 (winm 6 a))
      rw [hj]
      exact .int _ _
    exact law_run (fun f args h r e => call_ok plainP hkok 100000 80 f args h r (by rw [← callF_eq]; exact e)) hmix Tryz.func6 body nt res ⟨(fun _ _ z => by cases z), (fun _ z => by cases z)⟩ (.cons (.arg 0) (.cons (.bool b) .nil)) (by show 2 ≤ 71; decide) hrun
  have h : winm 6 a = 0 ∨ winm 6 a = 1 ∨ winm 6 a = 2 ∨ winm 6 a = 3 ∨ winm 6 a = 4 ∨ winm 6 a = 5 := by omega
  rcases h with h | h | h | h | h | h
  · cases b with
    | false => exact go 0 h false run0false
    | true => exact go 0 h true run0true
  · cases b with
    | false => exact go 1 h false run1false
    | true => exact go 1 h true run1true
  · cases b with
    | false => exact go 2 h false run2false
    | true => exact go 2 h true run2true
  · cases b with
    | false => exact go 3 h false run3false
    | true => exact go 3 h true run3true
  · cases b with
    | false => exact go 4 h false run4false
    | true => exact go 4 h true run4true
  · cases b with
    | false => exact go 5 h false run5false
    | true => exact go 5 h true run5true
end Go.Proofs.YtbndnhkhphkjgaaGreatDoor.SlistF
