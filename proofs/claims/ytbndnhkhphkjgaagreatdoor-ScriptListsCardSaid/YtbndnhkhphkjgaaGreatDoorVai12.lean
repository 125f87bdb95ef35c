/- The abstract machine: code. -/
import Derived.Test.YtbndnhkhphkjgaaGreatDoorVai11x
import Derived.LoopN
namespace Go.Vai
set_option linter.unusedVariables false
set_option linter.unusedSimpArgs false
set_option linter.unusedSectionVars false
variable [Lane]
variable {P : Program} {base : Nat} {φ φ' φ'' : Emb} {h h' h'' : Heap} {w w' w'' : World}

/-- what a temporary is, or that it is not known -/
def VRd (φ : Emb) (w : World) (x : AV) (v : Value) : Prop := x = .any ∨ VR φ w x v
theorem VRd.step {x : AV} {v : Value} (k : VRd φ w x v) (s : Step base φ h w φ' h' w') : VRd φ' w' x v := k.imp id fun q => q.step s
theorem VRd.live {x y : AV} {v : Value} (k : VRd φ w x v) (e : liveV x = some y) : VR φ w y v := by
  unfold liveV at e
  split at e
  · cases e
  · cases e
    rcases k with rfl | k
    · rename_i q; exact absurd rfl q
    · exact k
theorem VRd.tmp {fr : Fr} {t : Nat} {v : AV} {u : Value} (k : VRd φ w ((fr.get t).getD .u) u) (e : tmpV fr t = some v) : VR φ w v u := by
  unfold tmpV at e
  cases hx : fr.get t with
  | none =>
    rw [hx] at e k
    cases e
    rcases k with k | k
    · cases k
    · exact k
  | some x =>
    rw [hx] at e k
    exact VRd.live k e
/-- the temporaries of a frame -/
structure FR (N : Nat) (φ : Emb) (w : World) (fr : Fr) (a : Act) : Prop where
  size : a.tmps.size = N
  get : ∀ t, t < N → VRd φ w ((fr.get t).getD .u) (a.tmps.getD t undef)
  out : ∀ t, N ≤ t → fr.get t = none
theorem FR.eval {N : Nat} {fr : Fr} {a : Act} (f : FR N φ w fr a) {glob : Nat → Option AV} (hg : ∀ g v, glob g = some v → VR φ w v (.pointer (some ⟨g, 0, none⟩))) (x : Operand) (v : AV) (e : evalO glob fr x = some v) : VR φ w v (a.eval x) := by
  cases x with
  | tmp t =>
    have e' : tmpV fr t = some v := e
    show VR φ w v (a.tmps.getD t undef)
    rcases Nat.lt_or_ge t N with q | q
    · exact VRd.tmp (f.get t q) e'
    · rw [Array.getD_eq_getD_getElem?, Array.getElem?_eq_none (by rw [f.size]; exact q)]
      unfold tmpV at e'
      rw [f.out t q] at e'
      cases e'
      exact .u
  | const v' => exact ofV_VR e
  | global g => exact hg g v e
  | func f =>
    simp only [evalO, Option.some.injEq] at e
    subst e
    exact .func f [] [] .nil
theorem FR.mono {N : Nat} {fr : Fr} {a : Act} (f : FR N φ w fr a) (s : Step base φ h w φ' h' w') : FR N φ' w' fr a := ⟨f.size, fun t q => (f.get t q).step s, f.out⟩
theorem FR.put {N : Nat} {fr fr' : Fr} {a : Act} (f : FR N φ w fr a) {dst : Option Tmp} {v : AV} {u : Value} (hv : VR φ w v u) (e : putA N fr dst v = some fr') : FR N φ w fr' (a.put dst u) := by
  unfold putA at e
  cases dst with
  | none => cases e; exact f
  | some d =>
    simp only at e
    split at e
    case isFalse => cases e
    rename_i hd
    have hds : d < a.tmps.size := by rw [f.size]; exact hd
    refine ⟨by simp [Act.put, f.size], ?_, ?_⟩
    · intro t ht
      rw [Tr.get_set e]
      show VRd φ w _ ((a.tmps.setIfInBounds d u).getD t undef)
      rw [Array.getD_eq_getD_getElem?]
      by_cases q : t = d
      · subst q
        rw [if_pos rfl, Array.getElem?_setIfInBounds_self, if_pos hds]; exact .inr hv
      · rw [if_neg q, Array.getElem?_setIfInBounds_ne (Ne.symm q), ← Array.getD_eq_getD_getElem?]; exact f.get t ht
    · intro t ht
      rw [Tr.get_set e, if_neg (show ¬ t = d from fun q => by subst q; exact Nat.not_lt.2 ht hd)]; exact f.out t ht
end Go.Vai
