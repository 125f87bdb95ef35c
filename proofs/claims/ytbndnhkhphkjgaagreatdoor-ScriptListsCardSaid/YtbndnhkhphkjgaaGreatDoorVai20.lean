/- The abstract machine: a start from nothing; a call with a contract by hand; what is left untouched. -/
import Derived.Test.YtbndnhkhphkjgaaGreatDoorVai19
namespace Go.Vai
set_option linter.unusedVariables false
set_option linter.unusedSimpArgs false
set_option linter.unusedSectionVars false
variable [Lane]
variable {P : Program} {base : Nat} {φ φ' φ'' : Emb} {h h' h'' : Heap} {w w' w'' : World}
abbrev noEmb : Emb := fun _ _ => none
abbrev noHeap : Heap := ⟨0, .nil⟩
theorem HR.empty (w : World) : HR 0 noEmb noHeap w := by
  refine ⟨fun b _ => ⟨Tr.get_nil b, fun _ => rfl⟩, Nat.zero_le _, ?_, ?_, ?_, ?_, ?_⟩
  · intro b g c e; cases e
  · intro b g c b' g' c' e; cases e
  · intro b ro gen cs e
    have : (noHeap.objs.get b) = none := Tr.get_nil b
    rw [this] at e; cases e
  · intro b ro gen cs g c e
    have : (noHeap.objs.get b) = none := Tr.get_nil b
    rw [this] at e; cases e
  · intro b x g c e
    have : (noHeap.objs.get b) = none := Tr.get_nil b
    rw [this] at e; cases e
theorem WStep.below (s : WStep base noEmb noHeap w φ' h' w') : w'.os = w.os ∧ w'.tape = w.tape ∧ w'.output = w.output ∧ w.heap.size ≤ w'.heap.size ∧ ∀ k, k < w.heap.size → w'.heap[k]? = w.heap[k]? :=
  ⟨s.kept.os, s.kept.tape, s.kept.output, s.kept.size, fun k hk => s.kept.block k hk (fun b g c e => by cases e)⟩
section
variable {glob : Nat → Option AV} {call : Nat → List AV → Heap → Option (AV × Heap)} {N : Nat} {Q : Exit → Act → World → Prop}
theorem ops_go (hc : CallOk P base glob call) {ops : Array Oper} {l2 : List Nat} : ∀ {l : List Nat} {os : List Oper}, All2 (fun i o => ops[i]? = some o) l os → ∀ {φ : Emb} {w : World} {st st' : St} {a : Act},
    HR base φ st.h w → GlobOk glob φ w → FR N φ w st.fr a → opsA P glob call N ops os st = some st' → After base N φ st.h w a.defers st' (wpOps P ops Q l2) → wpOps P ops Q (l ++ l2) a w
  | [], _, .nil, φ, w, st, st', a, H, G, f, e, k => by
    simp only [opsA, Option.some.injEq] at e
    subst e
    exact k φ w a (Step.refl H) f rfl
  | i :: l, _, .cons (b := o) (m := os) hi t, φ, w, st, st', a, H, G, f, e, k => by
    simp only [opsA, Option.bind_eq_some_iff] at e
    obtain ⟨st1, e1, e2⟩ := e
    rw [List.cons_append, wpOps_cons]
    refine step_ok hc hi H G f e1 ?_
    intro φ' w' a' s f' d
    exact ops_go hc t s.hr (G.step s) f' e2 (d ▸ k.step H s)
/-- a call whose contract is given by hand: nothing else turns -/
theorem call_hand {ops : Array Oper} {i d g : Nat} {o : Oper} {st : St} {a : Act} {xs : List AV} {R : AV → Prop} (hi : ops[i]? = some o) (hg : o.guard = none) (hd : o.dst = some d)
    (H : HR base φ st.h w) (G : GlobOk glob φ w) (f : FR N φ w st.fr a) (e : aop P (evalO glob st.fr) st.h o = some (.enter g xs))
    (hcall : ∀ us : Array Value, All2 (VR φ w) xs us.toList → (callFunc g us).run P w = .ok (.enter g us) w ∧ Calls P g us w (fun e w' => ∃ v x, e = .returned v ∧ w' = w ∧ VR φ w x v ∧ R x))
    (hdN : ∀ x, R x → ∃ fr', putA N st.fr (some d) x = some fr') {K : Act → World → Prop}
    (k : ∀ x fr' a', R x → putA N st.fr (some d) x = some fr' → FR N φ w fr' a' → a'.defers = a.defers → K a' w) : wpOp P ops Q i K a w := by
  unfold wpOp
  simp only [hi]
  have hw : Region.wanted o (yielded ops a.tmps) = true := by unfold Region.wanted; rw [hg]
  rw [if_pos hw]
  refine .inl ?_
  have n := op_ok H (fun x v hx => f.eval G.at1 x v hx) e
  obtain ⟨us, q1, q2⟩ := n
  obtain ⟨c1, c2⟩ := hcall us q2
  unfold Oper.wp
  rw [q1, c1, Oper.upon_enter]
  refine c2.mono ?_
  rintro _ w' ⟨v, x, rfl, rfl, hv, hR⟩
  obtain ⟨fr', hp⟩ := hdN x hR
  rw [hd]
  exact k x fr' _ hR hp (f.put hv hp) (put_defers _ _ _)
end
/-- pieces of code -/
def cL : Code → Code
  | .seq a _ => a
  | c => c
def cR : Code → Code
  | .seq _ b => b
  | c => c
def cOps : Code → Array Oper
  | .region _ ops _ => ops
  | _ => #[]
def cIn : Code → Code
  | .block _ b => b
  | .loop b => b
  | c => c
def bodyOf (P : Program) (f : Nat) : Code := ((P.funcs[f]?).bind (·.body)).getD .skip
end Go.Vai
