/- The abstract machine: functions, calls. -/
import Derived.Test.YtbndnhkhphkjgaaGreatDoorVai13r
namespace Go.Vai
set_option linter.unusedVariables false
set_option linter.unusedSimpArgs false
set_option linter.unusedSectionVars false
variable [Lane]
variable {P : Program} {base : Nat} {φ φ' φ'' : Emb} {h h' h'' : Heap} {w w' w'' : World}
theorem func_ok {glob : Nat → Option AV} {call : Nat → List AV → Heap → Option (AV × Heap)} (hp : Plain P) (hc : CallOk P base glob call) (L : Nat) : CallOk P base glob (funcA P glob call L) := by
  intro f args h r e φ w us H G hl
  unfold funcA at e
  simp only [Option.bind_eq_some_iff] at e
  obtain ⟨fn, hf, e⟩ := e
  cases hb : fn.body with
  | none =>
    rw [hb] at e
    obtain ⟨h1, u, h2, h3⟩ := extL_ok (P := P) H hf hb (hp.names f fn hf) hl e
    exact .inr ⟨u, φ, w, h2, by rw [h1]; exact Step.refl H, h3⟩
  | some c =>
  rw [hb] at e
  simp only [Option.bind_eq_some_iff] at e
  obtain ⟨fr, hfr, ⟨x, st⟩, hx, e⟩ := e
  split at hx
  case isFalse => cases hx
  rename_i hn
  have hp' : fn.name ≠ "runtime.NumGoroutine" := by simpa using hp.names f fn hf
  refine .inl ⟨by simp [callFunc, Sem.run_bind, hf, hp', hb], ?_⟩
  have F := FR.start (N := fn.ntmps) hfr hl hn
  cases hr : hasRange c with
  | false =>
    rw [hr, cond_false] at hx
    refine calls_of_wp hf hb (code_ok hc hp.mixed L c (st := ⟨fr, h⟩) H G F hx ?_)
    intro φ' w' a' s f' d
    simp only at d
    have fin : ∀ vs, mapO (resA P st.h st.fr) fn.results.toList = some vs → r = ((tupA vs), st.h) → a'.defers = [] ∧ ∃ v, (results fn a'.tmps).run P w' = .ok v w' ∧ (∃ v1 φ', Ending.returned v = .returned v1 ∧ Step base φ h w φ' r.2 w' ∧ VR φ' w' r.1 v1) := by
      intro vs hvs hr
      obtain ⟨u, q1, q2⟩ := results_ok s.hr f' hvs
      subst hr
      exact ⟨d, u, q1, u, φ', rfl, s, q2⟩
    cases x with
    | normal =>
      simp only [Option.map_eq_some_iff] at e
      obtain ⟨vs, hvs, rfl⟩ := e
      exact fin vs hvs rfl
    | ret =>
      simp only [Option.map_eq_some_iff] at e
      obtain ⟨vs, hvs, rfl⟩ := e
      exact fin vs hvs rfl
    | exit id => cases e
  | true =>
    rw [hr, cond_true] at hx
    refine (callsIn_wide (n := 0)).1 (callsIn_of_wp_marks hf hb trivial (wpIn_wide.2 (codeD_ok (s0 := w.heap.size) hp hc L c (st := ⟨fr, h⟩) H G F ⟨[], rfl, List.nodup_nil, fun _ z => by cases z⟩ (Nat.le_refl _) hx ?_)))
    intro φ' w' a' s f' m
    obtain ⟨Ds, m1, m2, m3⟩ := m
    have fin : ∀ vs, mapO (resA P st.h st.fr) fn.results.toList = some vs → r = ((tupA vs), st.h) → LeavesInM Fence.wide 0 P fn a'.tmps (fun e w' => ∃ v φ', e = .returned v ∧ Step base φ h w φ' r.2 w' ∧ VR φ' w' r.1 v) a'.defers .returning w' := by
      intro vs hvs hr
      subst hr
      rw [m1]
      exact leaves_ok rfl H hvs (fun w'' u s2 hv => ⟨u, φ', rfl, s2, hv⟩) Ds w' m2 m3 s f'
    cases x with
    | normal =>
      simp only [Option.map_eq_some_iff] at e
      obtain ⟨vs, hvs, rfl⟩ := e
      exact fin vs hvs rfl
    | ret =>
      simp only [Option.map_eq_some_iff] at e
      obtain ⟨vs, hvs, rfl⟩ := e
      exact fin vs hvs rfl
    | exit id => cases e
theorem noHook_ok {glob : Nat → Option AV} : CallOk P base glob noHook := fun f args h r e => by simp [noHook] at e
theorem orHook_ok {glob : Nat → Option AV} {x y : HookT} (hx : CallOk P base glob x) (hy : CallOk P base glob y) : CallOk P base glob (fun f args h => orHook (x f args h) (y f args h)) := by
  intro f args h r e
  have e2 : orHook (x f args h) (y f args h) = some r := e
  unfold orHook at e2
  split at e2
  · rename_i r' h'
    exact hx f args h r (h'.trans e2)
  · exact hy f args h r e2
theorem call_ok {glob : Nat → Option AV} {hk : HookT} (hp : Plain P) (hh : CallOk P base glob hk) (L : Nat) : ∀ n, CallOk P base glob (callA P glob hk L n)
  | 0 => fun f args h r e => by simp [callA] at e
  | n + 1 => orHook_ok hh (func_ok hp (call_ok hp hh L n) L)
end Go.Vai
