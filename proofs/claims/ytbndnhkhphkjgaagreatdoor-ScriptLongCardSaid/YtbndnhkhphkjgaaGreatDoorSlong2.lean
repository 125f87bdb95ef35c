/- ScriptLong: the law's walk, by the machine: whatever the arguments, it returns true and nothing that was there has turned. -/
import Derived.Test.YtbndnhkhphkjgaaGreatDoorSlongr
import Derived.Test.YtbndnhkhphkjgaaGreatDoorSlongt0
namespace Go.Proofs.YtbndnhkhphkjgaaGreatDoor.SlongF
open Go.Vai
set_option linter.unusedVariables false
set_option maxRecDepth 1000000
theorem plainP : Plain P := by
  refine ⟨fun f fn hf => ?_, by kernel_rfl⟩
  have h : (P.funcs.toList.all fun fn => !(fn.name == "runtime.NumGoroutine")) = true := by kernel_rfl
  have := List.all_eq_true.1 h fn (by simpa using Array.mem_of_getElem? hf)
  simpa using this
theorem body : Tryz.f7.body = some lb := by kernel_rfl
theorem nt : Tryz.f7.ntmps = 65 := by kernel_rfl
theorem res : Tryz.f7.results.toList = [.tmp 2] := by kernel_rfl
theorem cl0_ok [Lane] : CallOk P 0 glN cl0 := fun f args h r e => call_ok plainP (noHook_ok) 100000 80 f args h r (by rw [← callF_eq]; exact e)
theorem es_ok : ∀ en ∈ es, entB cl0 17 en = true := (List.forall_mem_cons.2 ⟨e0, (List.forall_mem_cons.2 ⟨e1, (List.forall_mem_cons.2 ⟨e2, (List.forall_mem_cons.2 ⟨e3, (fun _ h => by cases h)⟩)⟩)⟩)⟩)
theorem law_calls (a : Int) (w : World) : Calls P 7 #[.int .i64 a] w fun e w' => e = .returned (.bool true) ∧
    (w'.os = w.os ∧ w'.tape = w.tape ∧ w'.output = w.output ∧ w.heap.size ≤ w'.heap.size ∧ ∀ k, k < w.heap.size → w'.heap[k]? = w.heap[k]?) := by
  have hr := winm_range 3 (by decide) a
  have hmix : P.follows .mixedOrders = true := plainP.mixed
  letI : Lane := ⟨0, fun _ => a, by decide, []⟩
  have go : ∀ (j : Nat), winm 3 a = j → runB P (cl j) 100000 65 lb 2 [.arg 0] = true → Calls P 7 #[.int .i64 a] w fun e w' => e = .returned (.bool true) ∧
      (w'.os = w.os ∧ w'.tape = w.tape ∧ w'.output = w.output ∧ w.heap.size ≤ w'.heap.size ∧ ∀ k, k < w.heap.size → w'.heap[k]? = w.heap[k]?) := by
    intro j hj hrun
    have hkok : CallOk P 0 glN (hk j) := by
      refine hk2_ok (tabA_ok cl0_ok es_ok) (winF_ok (fun us w => enters plainP Tryz.func9 (by kernel_rfl) us w) (fun m a w h0 h1 => withinm_calls m a w h0 h1) ?_)
      intro p hp
      have hp' : p = (0, 3, .int .i64 (.ofNat j)) := by simpa [wl] using hp
      subst hp'
      refine ⟨(show 0 < 3 by decide), (show 3 ≤ 1000 by decide), fun φ w => ?_⟩
      show VR φ w (.int .i64 (.ofNat j)) (.int .i64 (winm 3 a))
      rw [hj]
      exact .int _ _
    exact law_run (fun f args h r e => call_ok plainP hkok 100000 80 f args h r (by rw [← callF_eq]; exact e)) hmix Tryz.func7 body nt res ⟨(fun _ _ z => by cases z), (fun _ z => by cases z)⟩ (.cons (.arg 0) .nil) (by show 1 ≤ 65; decide) hrun
  have h : winm 3 a = 0 ∨ winm 3 a = 1 ∨ winm 3 a = 2 := by omega
  rcases h with h | h | h
  · exact go 0 h run0
  · exact go 1 h run1
  · exact go 2 h run2
end Go.Proofs.YtbndnhkhphkjgaaGreatDoor.SlongF
