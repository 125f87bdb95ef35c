/- ChangeKeys: whatever the argument, the law returns true, and the argument reads as it did. No conditions. -/
import Derived.Test.YtpcfbhjkoghepaaRows
import Derived.Test.YtpcfbhjkoghepaaKeys2
import Derived.Test.YtpcfbhjkoghepaaWin
import Derived.ProofKit
import Derived.OpenShut
import Derived.Below
namespace Go.Proofs.Ytpcfbhjkoghepaa.Keys
open Go.Vai
set_option linter.unusedVariables false
set_option maxRecDepth 1000000
theorem plainP : Plain P := by
  refine ⟨fun f fn hf => ?_, by kernel_rfl⟩
  have h : (P.funcs.toList.all fun fn => !(fn.name == "runtime.NumGoroutine")) = true := by kernel_rfl
  have := List.all_eq_true.1 h fn (by simpa using Array.mem_of_getElem? hf)
  simpa using this
theorem win_call (a : Int) (w : World) : (callFunc 6 #[.int .i64 a, .int .i64 9]).run P w = .ok (.enter 6 #[.int .i64 a, .int .i64 9]) w ∧ Calls P 6 #[.int .i64 a, .int .i64 9] w (fun e w' => e = .returned (.int .i64 (win a)) ∧ w' = w) :=
  ⟨enters plainP Try.func6 (by kernel_rfl) _ w, within_calls a w⟩
theorem body3 : Try.f3.body = some lb := by kernel_rfl
theorem nt3 : Try.f3.ntmps = 185 := by kernel_rfl
theorem res3 : Try.f3.results.toList = [.tmp 2] := by kernel_rfl
theorem head5 : headIs 36 37 ops4.toList = true := by kernel_rfl
theorem dead_ok : (dead.all fun t => Nat.blt t 185) = true := by kernel_rfl
theorem law_calls (a : Int) (w : World) : Calls P 3 #[.int .i64 a] w fun e w' => e = .returned (.bool true) ∧
    (w'.os = w.os ∧ w'.tape = w.tape ∧ w'.output = w.output ∧ w.heap.size ≤ w'.heap.size ∧ ∀ k, k < w.heap.size → w'.heap[k]? = w.heap[k]?) := by
  have hr := win_range a
  have hmix : P.follows .mixedOrders = true := plainP.mixed
  by_cases h8 : win a < 8
  · letI : Lane := ⟨(win a).toNat, fun _ => a, by show _ < 8; omega⟩
    have hx : VR noEmb w (ints [0, 1, 2, 3, 4, 5, 6, 7]) (.int .i64 (win a)) → True := fun _ => trivial
    have hcl : CallOk P 0 glN clA := by
      refine callW_ok (x := .int .i64 (win a)) (fun w => win_call a w) (fun φ w => ?_) (fun f args h r e => call_ok plainP 100000 60 f args h r (by rw [← callF_eq]; exact e))
      have hw : win a = Int.ofNat (win a).toNat := by show _ = ((win a).toNat : Int); omega
      rw [hw]
      refine ints_ok ?_ φ w
      show [0, 1, 2, 3, 4, 5, 6, 7][(win a).toNat]? = _
      have : (win a).toNat < 8 := by omega
      generalize (win a).toNat = x at this
      have : x = 0 ∨ x = 1 ∨ x = 2 ∨ x = 3 ∨ x = 4 ∨ x = 5 ∨ x = 6 ∨ x = 7 := by omega
      rcases this with rfl|rfl|rfl|rfl|rfl|rfl|rfl|rfl <;> rfl
    exact law_loop hcl hmix Try.func3 body3 nt3 res3 shape (by simp) shape4 head5 dead_ok (.cons (.arg 0) .nil) (by decide) (show stOf P clA 100000 185 [r0, r1, r2, r3, r4] dead [.arg 0] = stA from rfl)
      (lh := [(0, 5)]) (fun z hz => by rw [List.mem_singleton.1 hz]; exact roundsA) (fun j hj => ⟨(0, 5), List.mem_singleton.2 rfl, Nat.zero_le _, hj⟩) countA lastA
  · letI : Lane := ⟨0, fun _ => a, by decide⟩
    have hcl : CallOk P 0 glN clB := by
      refine callW_ok (x := .int .i64 (win a)) (fun w => win_call a w) (fun φ w => ?_) (fun f args h r e => call_ok plainP 100000 60 f args h r (by rw [← callF_eq]; exact e))
      have hw : win a = Int.ofNat 8 := by show _ = (8 : Int); omega
      rw [hw]
      exact ints_ok rfl φ w
    exact law_loop hcl hmix Try.func3 body3 nt3 res3 shape (by simp) shape4 head5 dead_ok (.cons (.arg 0) .nil) (by decide) (show stOf P clB 100000 185 [r0, r1, r2, r3, r4] dead [.arg 0] = stB from rfl)
      (lh := [(0, 5)]) (fun z hz => by rw [List.mem_singleton.1 hz]; exact roundsB) (fun j hj => ⟨(0, 5), List.mem_singleton.2 rfl, Nat.zero_le _, hj⟩) countB lastB
end Go.Proofs.Ytpcfbhjkoghepaa.Keys
namespace Go.Proofs.Ytpcfbhjkoghepaa.changeKeys
open Go.ChangeShapes Go.WideShapes Go.ChangeAt Go.RowKit
set_option linter.unusedVariables false
theorem own : ownKnob Try.prog.godebug = none := by kernel_rfl
set_option maxRecDepth 100000 in
theorem lifted (os : Os) (started : os.Started) (H : Type) (enc : TypeId × Value → H) :
    ReturnsInHanded {} Try.checked os 3 .any (Rows.changeKeysSpec.pre6 enc Try.prog Try.f3 Rows.changeKeysRow.domain false) (Rows.changeKeysSpec.post enc Try.prog Try.f3 false true false false) := by
  refine returnsInHanded_of_change (C := Try.checked) own started (by kernel_rfl) Try.func3
    (ChangeSpec.witness6 (enc := enc) (C := Try.checked) false ⟨#[], #[.int .i64 0], []⟩ 8 (by kernel_rfl) (by kernel_rfl) (by kernel_rfl) (by kernel_rfl)) ?_
  intro W base args ds gs before hval0 hW hcnd _
  have hval : ∀ (j : Nat) t v, Try.f3.params[j]? = some t → args[j]? = some v → Value.okWide Try.prog W .any base t v := hval0
  have hW' := hW
  obtain ⟨p, q, hA0, hV, rfl, hfz, hnd⟩ := hW
  have hA : DataW.TrodAll enc Try.prog W 0 (fun _ => true) true Try.f3.params.toList args.toList ds p := hA0
  rw [Try.params3] at hA hval
  obtain ⟨v0, d0, rfl, rfl, h0⟩ := trodAll_one hA
  obtain ⟨rfl, rfl⟩ := trodVars_none hV
  obtain ⟨n, rfl, rfl, rfl, hwn⟩ := open_int Try.underlying3 (hval 0 3 v0 rfl rfl) h0
  clear hA0 hval0
  refine (Keys.law_calls n W).mono fun e W' ⟨he, k1, k2, k3, k4, k5⟩ => ?_
  subst he
  have bel : Below W.heap.size W W' := ⟨k1, k2, k3, k4, k5⟩
  exact ⟨_, rfl, _, _, _, [], _, [], hW', trodAll_mk1 (shut_bool Try.underlying4 _), trodAll_mk1 (shut_int Try.underlying3 hwn), rfl, bel.frame _, fun h => by cases h⟩
theorem over : Rows.changeKeysRow.holds Try.pinned (OpenSpec.ofChange Rows.changeKeysSpec) :=
  OpenClaim.holds_of_wide 3 Try.f3 rfl rfl rfl rfl rfl rfl rfl ⟨rfl, rfl, rfl, rfl, rfl⟩ rfl rfl rfl rfl rfl (by kernel_rfl) Try.func3 (by kernel_rfl)
    (of_decide_eq_true (by kernel_rfl)) (by unfold Func.isWrapper; first | (rw [if_pos (by decide +kernel)]; kernel_rfl) | (rw [if_neg (by decide +kernel)]; exact ⟨rfl, rfl⟩))
    (fun os started H enc _ => lifted os started H enc)
end Go.Proofs.Ytpcfbhjkoghepaa.changeKeys
namespace Go.Proofs.Ytpcfbhjkoghepaa
/-- The row, under a short name, for the claim. -/
theorem changeKeys_holds : Rows.ChangeKeysSaid := changeKeys.over
#print axioms changeKeys_holds
end Go.Proofs.Ytpcfbhjkoghepaa
