/- The abstract machine: a law that goes over a table: each round comes back to the same memory. -/
import Derived.Test.YtbndnhkhphkjgaaGreatDoorVaiS
namespace Go.Vai
set_option linter.unusedVariables false
set_option linter.unusedSimpArgs false
set_option linter.unusedSectionVars false
/-- a round of the law's loop, from the state behind the pieces -/
def roundR (P : Program) (cl : CallT) (L N : Nat) (body : Code) (o : Option St) (told told2 : List (Nat × AV)) : Bool :=
  match o with
  | none => false
  | some st => (match setAll told st.fr with
    | none => false
    | some fr => (match setAll told2 st.fr with
      | none => false
      | some tgt => (match (codeB P glN L N body).f cl fr st.h with
        | none => false
        | some (x, s) => (match x with
          | .normal => back0B st.h s.h && leF N fr s.fr tgt
          | _ => false))))
/-- the loop's end, and what stands behind it -/
def endR (P : Program) (cl : CallT) (L N : Nat) (body c9 : Code) (b0 t2 : Nat) (o : Option St) (told : List (Nat × AV)) : Bool :=
  match o with
  | none => false
  | some st => (match setAll told st.fr with
    | none => false
    | some fr => (match (codeB P glN L N body).f cl fr st.h with
      | none => false
      | some (x, s) => (match x with
        | .exit b => Nat.beq b b0 && (match codesB P cl L N [c9] s.fr s.h with
          | none => false
          | some s2 => (match s2.fr.get t2 with | some (.bool b) => b | _ => false))
        | _ => false)))
section
variable [Lane] {P : Program} {cl : CallT} {L N : Nat} {base : Nat} {φ φ0 : Emb} {h0 : Heap} {w w0 : World}
def RoundsOk (P : Program) (cl : CallT) (L N : Nat) (body : Code) (o : Option St) : List (Nat × AV) → List (List (Nat × AV)) → Prop
  | _, [] => True
  | told, t2 :: l => roundR P cl L N body o told t2 = true ∧ (t2.all fun p => Nat.blt p.1 N) = true ∧ RoundsOk P cl L N body o t2 l
def lastR2 : List (Nat × AV) → List (List (Nat × AV)) → List (Nat × AV)
  | told, [] => told
  | _, t2 :: l => lastR2 t2 l
theorem rounds_ok (hc : CallOk P base glN cl) (hmix : P.follows .mixedOrders = true) {body : Code} {o : Option St} {st : St} (ho : o = some st) (hout : ∀ t, N ≤ t → st.fr.get t = none) (H0 : HR base φ0 h0 w0) (G0 : GlobOk glN φ0 w0) {Q : Exit → Act → World → Prop} :
    ∀ (l : List (List (Nat × AV))) (told : List (Nat × AV)) {w : World} {a : Act} {fr : Fr}, RoundsOk P cl L N body o told l → WStep base φ0 h0 w0 φ st.h w → setAll told st.fr = some fr → FR N φ w fr a →
    (∀ w' a' tgt, setAll (lastR2 told l) st.fr = some tgt → WStep base φ0 h0 w0 φ st.h w' → FR N φ w' tgt a' → a'.defers = a.defers → body.wp P (Exit.then (fun _ _ => False) Q) a' w') → Code.rounds P body Q (l.length + 1) a w
  | [], told, w, a, fr, h, S, hfr, F, k => by
    have := k w a fr hfr S F rfl
    exact this
  | t2 :: l, told, w, a, fr, h, S, hfr, F, k => by
    obtain ⟨h1, h2, h3⟩ := h
    unfold roundR at h1
    simp only [ho, hfr] at h1
    split at h1
    · cases h1
    rename_i tgt htgt
    split at h1
    · cases h1
    rename_i x s hs
    cases x with
    | exit _ => cases h1
    | ret => cases h1
    | normal =>
    simp only [Bool.and_eq_true] at h1
    rw [codeB_eq] at hs
    have ht := setAll_out htgt h2 hout
    show body.wp P (Exit.then (Code.rounds P body Q (l.length + 1)) Q) a w
    refine code_ok hc hmix L body (st := ⟨fr, st.h⟩) S.hr (G0.wstep S) F hs ?_
    intro φ' w' a' s' f' d
    have hb := back0B_ok (fun b hb => (S.hr.fresh b hb).1) h1.1
    show Code.rounds P body Q (l.length + 1) a' w'
    refine rounds_ok hc hmix ho hout H0 G0 l t2 h3 (S.ret H0 s'.toWStep hb) htgt (F.ret f' s'.ext ht h1.2 ?_) (fun w2 a2 tgt2 q1 q2 q3 q4 => k w2 a2 tgt2 q1 q2 q3 (q4.trans d))
    intro t v h1 h2 h3
    have htN : t < N := by
      rcases Nat.lt_or_ge t N with q | q
      · exact q
      · rw [F.out t q] at h1; cases h1
    have g := F.get t htN
    rw [h1] at g
    rcases g with g | g
    · have g : v = .any := g
      subst g
      simp [plain1, plain0] at h2
    · exact ⟨_, g⟩
/-- a law that is pieces, and then a loop over a table -/
theorem law_rounds (hc : CallOk P 0 glN cl) (hmix : P.follows .mixedOrders = true) {f : FuncId} {fn : Func} {lb body c9 : Code} {rs : List Code} {keep : List Nat} {args : List AV} {us : Array Value} {b0 t2 : Nat} {w : World}
    (hf : P.funcs[f]? = some fn) (hb : fn.body = some lb) (hN : fn.ntmps = N) (hres : fn.results.toList = [.tmp t2]) (hne : rs ≠ []) (hlb : lb = spineC rs (.block b0 (.loop body)) (.seq c9 .ret))
    (G0 : GlobOk glN noEmb w) (hargs : All2 (VR noEmb w) args us.toList) (hlen : args.length ≤ N) {o : Option St} (ho : stG P cl L N rs keep args = o) {l : List (List (Nat × AV))} (hs : RoundsOk P cl L N body o [] l) (hend : endR P cl L N body c9 b0 t2 o (lastR2 [] l) = true) :
    Calls P f us w fun e w' => e = .returned (.bool true) ∧ (w'.os = w.os ∧ w'.tape = w.tape ∧ w'.output = w.output ∧ w.heap.size ≤ w'.heap.size ∧ ∀ k, k < w.heap.size → w'.heap[k]? = w.heap[k]?) := by
  cases ho' : o with
  | none => rw [ho'] at hend; cases hend
  | some st =>
  have hst := ho.trans ho'
  unfold stG at hst
  obtain ⟨fr0, e0, hst⟩ := bnd_some hst
  obtain ⟨s0, e1, hst⟩ := bnd_some hst
  obtain ⟨frA, e2, hst⟩ := bnd_some hst
  have hst := Option.some.inj hst
  rw [argsF_eq] at e0
  rw [codesB_eq] at e1
  refine calls_of_wp hf hb ?_
  rw [hN, hlb]
  have H0 : HR 0 noEmb noHeap w := HR.empty w
  have F0 := FR.start (N := N) e0 hargs hlen
  refine spineC_ok hc hmix rs (st := ⟨fr0, noHeap⟩) hne H0 G0 F0 e1 ?_
  intro φ4 w4 a4 s4 f4 d4
  have FA : FR N φ4 w4 st.fr a4 := by
    rw [← hst]
    exact f4.any e2 (fun t ht => by have := (List.mem_filter.1 ht).1; exact List.mem_range.1 this)
  have S : WStep 0 noEmb noHeap w φ4 st.h w4 := by
    rw [← hst]
    exact s4.toWStep.gc
  refine wp_block (wp_loop_rounds (l.length + 1) (rounds_ok hc hmix ho' FA.out H0 G0 l [] hs S rfl FA ?_))
  intro w5 a5 tgt htgt S5 F5 d5
  unfold endR at hend
  simp only [ho', htgt] at hend
  split at hend
  · cases hend
  rename_i x s hsx
  cases x with
  | normal => cases hend
  | ret => cases hend
  | exit b =>
  simp only [Bool.and_eq_true] at hend
  obtain ⟨hbb, hend⟩ := hend
  have hbb := Nat.eq_of_beq_eq_true hbb
  subst hbb
  split at hend
  · cases hend
  rename_i s2 hs2
  split at hend
  case h_2 => cases hend
  rename_i bb hg
  subst hend
  rw [codeB_eq] at hsx
  rw [codesB_eq] at hs2
  refine code_ok hc hmix L body (st := ⟨tgt, st.h⟩) S5.hr (G0.wstep S5) F5 hsx ?_
  intro φ6 w6 a6 s6 f6 d6
  show Exit.inBlock b _ (.exit b) a6 w6
  simp only [Exit.inBlock, if_pos]
  show Code.wp P (.seq c9 .ret) _ a6 w6
  unfold codesA at hs2
  split at hs2
  case h_2 => cases hs2
  rename_i s3 hs3
  simp only [codesA, Option.some.injEq] at hs2
  subst hs2
  refine wp_seq (code_ok hc hmix L c9 s6.hr (G0.wstep (S5.trans H0 s6.toWStep)) f6 hs3 ?_)
  intro φ7 w7 a7 s7 f7 d7
  refine wp_ret ?_
  have hr : mapO (resA P s3.h s3.fr) fn.results.toList = some [.bool true] := by
    rw [hres]
    simp only [mapO, resA, hg, liveV, Option.bind_some]
  obtain ⟨u, m1, m2⟩ := results_ok s7.hr f7 hr
  have hu : u = .bool true := by
    have m2' : VR φ7 w7 (.bool true) u := m2
    cases m2'; rfl
  exact ⟨by rw [d7, d6, d5, d4], u, m1, by rw [hu], ((S5.trans H0 s6.toWStep).trans H0 s7.toWStep).below⟩
end
end Go.Vai
