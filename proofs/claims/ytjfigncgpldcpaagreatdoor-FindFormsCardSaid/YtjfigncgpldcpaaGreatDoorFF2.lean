/- FindForms: the law's walk, by the machine: whatever the argument, it returns true and nothing that was there has turned. -/
import Derived.Test.YtjfigncgpldcpaaGreatDoorFF1
import Derived.Test.YtjfigncgpldcpaaGreatDoorFFl
import Derived.Test.YtjfigncgpldcpaaGreatDoorFFr0
import Derived.Test.YtjfigncgpldcpaaGreatDoorFFr1
import Derived.Test.YtjfigncgpldcpaaGreatDoorFFr2
import Derived.Test.YtjfigncgpldcpaaGreatDoorFFr3
import Derived.Test.YtjfigncgpldcpaaGreatDoorWithin
namespace Go.Proofs.YtjfigncgpldcpaaGreatDoor.FF
open Go.Vai
set_option linter.unusedVariables false
set_option linter.unusedSimpArgs false
set_option maxRecDepth 1000000
set_option profiler true
theorem plainP : Plain P := by
  refine ⟨fun f fn hf => ?_, by kernel_rfl⟩
  have h : (P.funcs.toList.all fun fn => !(fn.name == "runtime.NumGoroutine")) = true := by kernel_rfl
  have := List.all_eq_true.1 h fn (by simpa using Array.mem_of_getElem? hf)
  simpa using this
/-- which of the eight is meant -/
@[reducible] def laneOf (a : Int) : Lane := ⟨(win a).toNat, fun _ => a, by have := win_range a; show _ < 8; omega⟩
theorem win_call (g : Nat) (hg : g = 4) (us : Array Value) (w : World) (a : Int) (hu : us = #[.int .i64 a, .int .i64 8]) : (callFunc g us).run P w = .ok (.enter g us) w ∧ Calls P g us w (fun e w' => e = .returned (.int .i64 (win a)) ∧ w' = w) := by
  subst hg hu
  refine ⟨?_, within_calls a w⟩
  have hf : P.funcs[4]? = some Tryz.f4 := Tryz.func4
  have hn : (Tryz.f4.name == "runtime.NumGoroutine") = false := plainP.names 4 _ hf
  have hb : Tryz.f4.body.isSome = true := by kernel_rfl
  cases hb' : Tryz.f4.body with
  | none => rw [hb'] at hb; cases hb
  | some c =>
    have hn' : Tryz.f4.name ≠ "runtime.NumGoroutine" := by simpa using hn
    simp [callFunc, Sem.run_bind, hf, hn', hb']
section
variable (a : Int)
theorem cl_ok : @CallOk (laneOf a) P 0 gl cl := by
  letI : Lane := laneOf a
  intro f args h r e0 φ w us H G hl
  have e : callW 4 (callF P gl 100000 60) f args h = some r := e0
  clear e0
  unfold callW at e
  cases q : Nat.beq f 4 with
  | true =>
    have q' := Nat.eq_of_beq_eq_true q
    subst q'
    rw [q, cond_true] at e
    unfold withinA at e
    split at e
    case h_2 => cases e
    rename_i m
    cases q2 : Nat.beq m 8 with
    | false => rw [q2] at e; cases e
    | true =>
    have q2' := Nat.eq_of_beq_eq_true q2
    subst q2'
    rw [q2, cond_true] at e
    cases e
    obtain ⟨l⟩ := us
    cases hl with
    | cons h1 ht =>
    cases ht with
    | cons h2 ht =>
    cases ht
    cases h1
    cases h2
    obtain ⟨c1, c2⟩ := win_call 4 rfl _ w a rfl
    refine .inl ⟨c1, c2.mono ?_⟩
    rintro _ w' ⟨rfl, rfl⟩
    refine ⟨_, φ, rfl, Step.refl H, ?_⟩
    have hr := win_range a
    refine .vec _ (.int .i64 (win a)) _ ?_ rfl (.int _ _)
    show [AV.int .i64 0, .int .i64 1, .int .i64 2, .int .i64 3, .int .i64 4, .int .i64 5, .int .i64 6, .int .i64 7][(win a).toNat]? = _
    generalize win a = x at hr
    have : x = 0 ∨ x = 1 ∨ x = 2 ∨ x = 3 ∨ x = 4 ∨ x = 5 ∨ x = 6 ∨ x = 7 := by omega
    rcases this with rfl|rfl|rfl|rfl|rfl|rfl|rfl|rfl <;> rfl
  | false =>
    rw [q, cond_false, callF_eq] at e
    exact call_ok plainP 100000 60 f args h r e φ w us H G hl
end
theorem bnd_some {α β : Type} {x : Option α} {f : α → Option β} {y : β} (e : bnd x f = some y) : ∃ z, x = some z ∧ f z = some y := by
  cases x with
  | none => cases e
  | some z => exact ⟨z, rfl, e⟩
theorem body3 : Tryz.f3.body = some lb := by kernel_rfl
theorem nt3 : Tryz.f3.ntmps = 66 := by kernel_rfl
theorem res3 : Tryz.f3.results.toList = [.tmp 2] := by kernel_rfl
def headIs (l : List Oper) : Bool :=
  match l with
  | o :: _ => (match o.op with | .next (.tmp t) false => Nat.beq t 26 | _ => false) && (o.guard.isNone && (match o.dst with | some d => Nat.beq d 27 | none => false))
  | [] => false
theorem headIs_ok {l : List Oper} (e : headIs l = true) : ∃ o0, l = o0 :: l.drop 1 ∧ o0.op = .next (.tmp 26) false ∧ o0.guard = none ∧ o0.dst = some 27 := by
  unfold headIs at e
  split at e
  case h_2 => cases e
  rename_i o l
  simp only [Bool.and_eq_true, Option.isNone_iff_eq_none] at e
  obtain ⟨e1, e2, e3⟩ := e
  refine ⟨o, rfl, ?_, e2, ?_⟩
  · split at e1
    case h_2 => cases e1
    rename_i t ho
    rw [ho, Nat.eq_of_beq_eq_true e1]
  · split at e3
    case h_2 => cases e3
    rename_i d hd
    rw [hd, Nat.eq_of_beq_eq_true e3]
theorem head4 : headIs ops4.toList = true := by kernel_rfl
theorem someR_at {o : Option St} {lo hi : Nat} {st : St} {ib mb n : Nat} {es : List (AV × AV)} (h1 : o = some st) (h2 : itOf st.fr = some ib) (h3 : st.h.objs.get ib = some (.mapit mb n none)) (h4 : st.h.objs.get mb = some (.map es)) (e : someR o lo hi = true) :
    es.length = n ∧ ∀ j x, lo ≤ j → j < hi → es[j]? = some x → roundB st ib mb n j x = true := by
  unfold someR at e
  simp only [h1, h2, h3, h4, Bool.and_eq_true] at e
  refine ⟨Nat.eq_of_beq_eq_true e.1, fun j x hlo hhi hx => ?_⟩
  refine List.all_eq_true.1 e.2 (x, j) ?_
  refine List.mem_of_getElem? (i := j - lo) ?_
  rw [List.getElem?_take_of_lt (by omega), List.getElem?_drop, List.getElem?_zipIdx, show lo + (j - lo) = j by omega, hx]
  simp
theorem someR_it {o : Option St} {lo hi : Nat} (e : someR o lo hi = true) : ∃ st ib mb n es, o = some st ∧ itOf st.fr = some ib ∧ st.h.objs.get ib = some (.mapit mb n none) ∧ st.h.objs.get mb = some (.map es) := by
  unfold someR at e
  split at e
  · cases e
  rename_i st
  split at e
  · cases e
  rename_i ib h2
  split at e
  case h_2 => cases e
  rename_i mb n h3
  split at e
  case h_2 => cases e
  rename_i es h4
  exact ⟨st, ib, mb, n, es, rfl, h2, h3, h4⟩
theorem stA_it : ∃ st ib mb n es, stA = some st ∧ itOf st.fr = some ib ∧ st.h.objs.get ib = some (.mapit mb n none) ∧ st.h.objs.get mb = some (.map es) := someR_it rounds0
theorem count_at {o : Option St} {st : St} {ib mb n : Nat} (h1 : o = some st) (h2 : itOf st.fr = some ib) (h3 : st.h.objs.get ib = some (.mapit mb n none)) (e : countR o = true) : n = 29 := by
  unfold countR at e
  simp only [h1, h2, h3] at e
  exact Nat.eq_of_beq_eq_true e
theorem n_is {st : St} {ib mb n : Nat} (h1 : stA = some st) (h2 : itOf st.fr = some ib) (h3 : st.h.objs.get ib = some (.mapit mb n none)) : n = 29 := count_at h1 h2 h3 count29
theorem set_other {α : Type} {t t' : Tr α} {k : Nat} {x : α} (h : t.set k x = some t') (y : α) : ∃ t'', t.set k y = some t'' := by
  unfold Tr.set at h ⊢
  cases q : Nat.blt k 1099511627776 with
  | false => rw [q] at h; cases h
  | true => exact ⟨_, rfl⟩
theorem itOf_ok {fr : Fr} {ib : Nat} (e : itOf fr = some ib) : ∃ x, fr.get 26 = some (.ptr (some ⟨ib, 0, 0, x⟩)) := by
  unfold itOf at e
  split at e
  case h_2 => cases e
  rename_i b x h
  cases e
  exact ⟨x, h⟩
theorem round_ok [Lane] {st : St} {ib mb n j : Nat} {e : AV × AV} (h : roundB st ib mb n j e = true) (hf : ∀ b, st.h.next ≤ b → st.h.objs.get b = none) (hi : st.h.objs.get ib = some (.mapit mb n none)) : ∃ fr1 os1 fr2 fr3 st2, putA 66 st.fr (some 27) (.tup [.bool true, e.1, e.2]) = some fr1 ∧ st.h.objs.set ib (.mapit mb n (some j)) = some os1 ∧
    opsP P gl 66 { st.h with objs := os1 } (ops4.toList.drop 1) fr1 = some fr2 ∧ fr2.get 28 = some (.bool true) ∧ opsP P gl 66 { st.h with objs := os1 } ops5.toList fr2 = some fr3 ∧
    codeA P gl cl 100000 66 rest ⟨fr3, st.h⟩ = some (.normal, st2) ∧ BackH ib st.h st2.h ∧ BackF 66 st.fr st2.fr := by
  unfold roundB at h
  split at h
  · cases h
  rename_i fr1 p1
  split at h
  · cases h
  rename_i os1 p2
  split at h
  · cases h
  rename_i fr2 p3
  split at h
  case h_2 => cases h
  rename_i p4
  split at h
  · cases h
  rename_i fr3 p5
  split at h
  case h_2 => cases h
  rename_i st2 p6
  rw [codeB_eq] at p6
  simp only [Bool.and_eq_true] at h
  exact ⟨fr1, os1, fr2, fr3, st2, p1, p2, p3, p4, p5, p6, backHB_ok hf ⟨mb, n, hi⟩ h.1, backFB_ok h.2⟩
theorem last_ok [Lane] {o : Option St} {st : St} (h1 : o = some st) (e : lastR o = true) : ∃ fr1 st1 s2 s3, putA 66 st.fr (some 27) (.tup [.bool false]) = some fr1 ∧ opsA P gl cl 66 ops4 (ops4.toList.drop 1) ⟨fr1, st.h⟩ = some st1 ∧ codeA P gl cl 100000 66 c4 st1 = some (.exit 0, s2) ∧
    codeA P gl cl 100000 66 c5 s2 = some (.ret, s3) ∧ s3.fr.get 2 = some (.bool true) := by
  unfold lastR at e
  simp only [h1] at e
  split at e
  · cases e
  rename_i s2 hs
  split at e
  case h_2 => cases e
  rename_i s3 hc
  split at e
  case h_2 => cases e
  rename_i h2
  unfold stL at hs
  split at hs
  · cases hs
  rename_i fr1 p1
  obtain ⟨s1, p2, hs⟩ := bnd_some hs
  split at hs
  case h_2 => cases hs
  rename_i s2' p3
  cases hs
  rw [opsB_eq] at p2
  rw [codeB_eq] at p3 hc
  exact ⟨fr1, s1, s2, s3, p1, p2, p3, hc, h2⟩
set_option maxHeartbeats 2000000 in
theorem law_calls (a : Int) (w : World) : Calls P 3 #[.int .i64 a] w fun e w' => e = .returned (.bool true) ∧
    (w'.os = w.os ∧ w'.tape = w.tape ∧ w'.output = w.output ∧ w.heap.size ≤ w'.heap.size ∧ ∀ k, k < w.heap.size → w'.heap[k]? = w.heap[k]?) := by
  letI : Lane := laneOf a
  have hcl : CallOk P 0 gl cl := cl_ok a
  have hmix : P.follows .mixedOrders = true := plainP.mixed
  obtain ⟨st, ib, mb, n, es, h1, h2, h3, h4⟩ := stA_it
  have R0 := someR_at h1 h2 h3 h4 rounds0
  have R1 := (someR_at h1 h2 h3 h4 rounds1).2
  have R2 := (someR_at h1 h2 h3 h4 rounds2).2
  have R3 := (someR_at h1 h2 h3 h4 rounds3).2
  have hlen : es.length = n := R0.1
  have hround : ∀ j x, es[j]? = some x → roundB st ib mb n j x = true := by
    intro j x hx
    have hj : j < n := by
      rw [← hlen]
      rcases Nat.lt_or_ge j es.length with q | q
      · exact q
      · rw [List.getElem?_eq_none q] at hx; cases hx
    have h29 : n = 29 := n_is h1 h2 h3
    rcases Nat.lt_or_ge j 10 with q | q
    · exact R0.2 j x (by omega) q hx
    · rcases Nat.lt_or_ge j 20 with q' | q'
      · exact R1 j x q q' hx
      · rcases Nat.lt_or_ge j 25 with q3 | q3
        · exact R2 j x q' q3 hx
        · exact R3 j x q3 (by omega) hx
  -- the start
  have hst := h1
  unfold stA at hst
  obtain ⟨fr0, e0, hst⟩ := bnd_some hst
  obtain ⟨⟨x0, s0⟩, e1, hst⟩ := bnd_some hst
  rw [argsF_eq] at e0
  rw [codeB_eq] at e1
  cases x0 with
  | exit _ => cases hst
  | ret => cases hst
  | normal =>
  simp only at hst
  obtain ⟨frA, e2, hst⟩ := bnd_some hst
  cases hst
  refine calls_of_wp Tryz.func3 body3 ?_
  rw [nt3, shape]
  have H0 : HR 0 noEmb noHeap w := HR.empty w
  have G0 : GlobOk gl noEmb w := fun _ _ z => by cases z
  have hargs : All2 (VR noEmb w) [.arg 0] (#[Value.int .i64 a]).toList := .cons (.arg 0) .nil
  have F0 := FR.start (N := 66) e0 hargs (by decide)
  -- the pieces ahead of the loop
  unfold pre at e1
  simp only [codeA, Option.bind_eq_some_iff] at e1
  obtain ⟨⟨y0, t0⟩, c0, e1⟩ := e1
  cases y0 with
  | exit _ => cases e1
  | ret => cases e1
  | normal =>
  simp only [Option.bind_eq_some_iff] at e1
  obtain ⟨⟨y1, t1⟩, c1, e1⟩ := e1
  cases y1 with
  | exit _ => cases e1
  | ret => cases e1
  | normal =>
  simp only [Option.bind_eq_some_iff] at e1
  obtain ⟨⟨y2, t2⟩, c2, e1⟩ := e1
  cases y2 with
  | exit _ => cases e1
  | ret => cases e1
  | normal =>
  simp only at e1
  refine wp_seq (code_ok hcl hmix 100000 r0 (st := ⟨fr0, noHeap⟩) H0 G0 F0 c0 ?_)
  intro φ1 w1 a1 s1 f1 d1
  have G1 := G0.step s1
  refine wp_seq (code_ok hcl hmix 100000 r1 s1.hr G1 f1 c1 ?_)
  intro φ2 w2 a2 s2 f2 d2
  have G2 := G1.step s2
  refine wp_seq (code_ok hcl hmix 100000 r2 s2.hr G2 f2 c2 ?_)
  intro φ3 w3 a3 s3 f3 d3
  have G3 := G2.step s3
  refine wp_seq (wp_seq (code_ok hcl hmix 100000 r3 s3.hr G3 f3 e1 ?_))
  intro φ4 w4 a4 s4 f4 d4
  have G4 := G3.step s4
  have S : WStep 0 noEmb noHeap w φ4 s0.h w4 := (((s1.trans H0 s2).trans H0 s3).trans H0 s4).toWStep
  have FA : FR 66 φ4 w4 frA a4 := f4.any e2 (by decide)
  have hfree : ∀ b, s0.h.next ≤ b → s0.h.objs.get b = none := fun b hb => (s4.hr.fresh b hb).1
  obtain ⟨fr1, st1, z2, z3, p1, p2, p3, p4, p5⟩ := last_ok h1 last_true
  obtain ⟨o0, ho0, q1, q2, q3⟩ := headIs_ok head4
  have h29 : n = 29 := n_is h1 h2 h3
  have hes0 : ∃ x, es[0]? = some x := ⟨es[0]'(by omega), List.getElem?_eq_getElem _⟩
  obtain ⟨x0, hx0⟩ := hes0
  have K : LoopOk P gl cl 100000 66 ops4 (ops4.toList.drop 1) 28 ops5 rest c4 ⟨frA, s0.h⟩ 26 27 ib mb n es (.exit 0) z2 := by
    refine ⟨itOf_ok h2, h3, h4, hlen, ?_, fun j e hj => round_ok (hround j e hj) hfree h3, ⟨fr1, st1, p1, p2, p3⟩, by simp⟩
    obtain ⟨_, os1, _, _, _, _, r2, _⟩ := round_ok (hround 0 x0 hx0) hfree h3
    exact set_other r2 _
  refine wp_block (loop_map hcl hmix shape4 ho0 q1 q2 q3 K H0 S G4 FA ?_)
  intro φ5 w5 a5 s5 f5 d5
  refine code_ok hcl hmix 100000 c5 s5.hr (fun _ _ z => by cases z) f5 p4 ?_
  intro φ6 w6 a6 s6 f6 d6
  have T := s5.trans H0 s6.toWStep
  have hres : mapO (resA P z3.h z3.fr) Tryz.f3.results.toList = some [.bool true] := by
    rw [res3]
    simp only [mapO, resA, p5, liveV, Option.bind_some]
  obtain ⟨u, m1, m2⟩ := results_ok s6.hr f6 hres
  have hu : u = .bool true := by
    have m2' : VR φ6 w6 (.bool true) u := m2
    cases m2'; rfl
  refine ⟨by rw [d6, d5, d4, d3, d2, d1], u, m1, by rw [hu], T.below⟩
end Go.Proofs.YtjfigncgpldcpaaGreatDoor.FF
