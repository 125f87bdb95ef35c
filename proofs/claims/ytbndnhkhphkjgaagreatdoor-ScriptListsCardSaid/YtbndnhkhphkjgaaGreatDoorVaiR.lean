/- The abstract machine: a law that is run whole. -/
import Derived.Test.YtbndnhkhphkjgaaGreatDoorVaiE
namespace Go.Vai
set_option linter.unusedVariables false
set_option linter.unusedSimpArgs false
set_option linter.unusedSectionVars false
def runB (P : Program) (cl : CallT) (L N : Nat) (c : Code) (t2 : Nat) (args : List AV) : Bool :=
  match argsF 0 args .nil with
  | none => false
  | some fr => (match (codeB P glN L N c).f cl fr noHeap with
    | some (.ret, s) => (match s.fr.get t2 with | some (.bool b) => b | _ => false)
    | _ => false)
theorem law_run [Lane] {P : Program} {cl : CallT} {L N : Nat} (hc : CallOk P 0 glN cl) (hmix : P.follows .mixedOrders = true) {f : FuncId} {fn : Func} {lb : Code} {args : List AV} {us : Array Value} {t2 : Nat} {w : World}
    (hf : P.funcs[f]? = some fn) (hb : fn.body = some lb) (hN : fn.ntmps = N) (hres : fn.results.toList = [.tmp t2]) (G0 : GlobOk glN noEmb w) (hargs : All2 (VR noEmb w) args us.toList) (hlen : args.length ≤ N) (e : runB P cl L N lb t2 args = true) :
    Calls P f us w fun e w' => e = .returned (.bool true) ∧ (w'.os = w.os ∧ w'.tape = w.tape ∧ w'.output = w.output ∧ w.heap.size ≤ w'.heap.size ∧ ∀ k, k < w.heap.size → w'.heap[k]? = w.heap[k]?) := by
  unfold runB at e
  split at e
  · cases e
  rename_i fr0 e0
  rw [argsF_eq] at e0
  split at e
  case h_2 => cases e
  rename_i s hs
  split at e
  case h_2 => cases e
  rename_i bb hg
  subst e
  rw [codeB_eq] at hs
  refine calls_of_wp hf hb ?_
  rw [hN]
  have H0 : HR 0 noEmb noHeap w := HR.empty w
  have F0 := FR.start (N := N) e0 hargs hlen
  refine code_ok hc hmix L lb (st := ⟨fr0, noHeap⟩) H0 G0 F0 hs ?_
  intro φ' w' a' s' f' d
  have hr : mapO (resA P s.h s.fr) fn.results.toList = some [.bool true] := by
    rw [hres]
    simp only [mapO, resA, hg, liveV, Option.bind_some]
  obtain ⟨u, m1, m2⟩ := results_ok s'.hr f' hr
  have hu : u = .bool true := by
    have m2' : VR φ' w' (.bool true) u := m2
    cases m2'; rfl
  exact ⟨by rw [d], u, m1, by rw [hu], s'.toWStep.below⟩
end Go.Vai
