/- EditErrors: the law's walk, by the machine: whatever the argument, it returns true and nothing that was there has turned. -/
import Derived.Test.YtbndnhkhphkjgaaGreatDoorErrst0
import Derived.Test.YtbndnhkhphkjgaaGreatDoorErrst1
import Derived.Test.YtbndnhkhphkjgaaGreatDoorErrst2
import Derived.Test.YtbndnhkhphkjgaaGreatDoorErrst3
import Derived.Test.YtbndnhkhphkjgaaGreatDoorErrst4
import Derived.Test.YtbndnhkhphkjgaaGreatDoorErrst5
import Derived.Test.YtbndnhkhphkjgaaGreatDoorErrst6
import Derived.Test.YtbndnhkhphkjgaaGreatDoorErrst7
import Derived.Test.YtbndnhkhphkjgaaGreatDoorErrst8
import Derived.Test.YtbndnhkhphkjgaaGreatDoorErrst9
import Derived.Test.YtbndnhkhphkjgaaGreatDoorErrst10
import Derived.Test.YtbndnhkhphkjgaaGreatDoorErrse
namespace Go.Proofs.YtbndnhkhphkjgaaGreatDoor.ErrsF
open Go.Vai
set_option linter.unusedVariables false
set_option maxRecDepth 1000000
theorem plainP : Plain P := by
  refine ⟨fun f fn hf => ?_, by kernel_rfl⟩
  have h : (P.funcs.toList.all fun fn => !(fn.name == "runtime.NumGoroutine")) = true := by kernel_rfl
  have := List.all_eq_true.1 h fn (by simpa using Array.mem_of_getElem? hf)
  simpa using this
theorem body : Tryz.f3.body = some lb := by kernel_rfl
theorem nt : Tryz.f3.ntmps = 92 := by kernel_rfl
theorem res : Tryz.f3.results.toList = [.tmp 2] := by kernel_rfl
theorem tabs_of {w w' : World} (hT : Lib.Utf8Tabs 1 2 w) (h1 : w'.heap[1]? = w.heap[1]?) (h2 : w'.heap[2]? = w.heap[2]?) : Lib.Utf8Tabs 1 2 w' := by
  refine ⟨fun c hc => ?_, fun i hi => ⟨?_, ?_⟩⟩
  · rw [← hT.1 c hc]; simp only [World.cell?, h1]
  · rw [← (hT.2 i hi).1]; simp only [World.cell?, h2]
  · rw [← (hT.2 i hi).2]; simp only [World.cell?, h2]
theorem obj_of {w : World} {b o : Nat} {v : Value} (h : w.cell? ⟨b, o, none⟩ = some v) : ∃ x, w.heap[b]? = some x := by
  unfold World.cell? at h
  split at h
  · rename_i q; exact ⟨_, q⟩
  · cases h
theorem law_calls (a : Int) (w : World) (hT : Lib.Utf8Tabs 1 2 w) : Calls P 3 #[.int .i64 a] w fun e w' => e = .returned (.bool true) ∧
    (w'.os = w.os ∧ w'.tape = w.tape ∧ w'.output = w.output ∧ w.heap.size ≤ w'.heap.size ∧ ∀ k, k < w.heap.size → w'.heap[k]? = w.heap[k]?) := by
  have hr := winm_range 99 (by decide) a
  have hmix : P.follows .mixedOrders = true := plainP.mixed
  obtain ⟨o1, h1⟩ := obj_of (hT.1 0 (by decide))
  obtain ⟨o2, h2⟩ := obj_of (hT.2 0 (by decide)).1
  letI : Lane := ⟨(winm 99 a).toNat, fun _ => a, by show _ < 99; omega, [(1, o1), (2, o2)]⟩
  have hTT : ∀ (φ : Emb) w', StatOk φ w' → Lib.Utf8Tabs 1 2 w' := fun φ w' q =>
    tabs_of hT ((q (1, o1) (by show (1, o1) ∈ [(1, o1), (2, o2)]; simp)).1.trans h1.symm) ((q (2, o2) (by show (2, o2) ∈ [(1, o1), (2, o2)]; simp)).1.trans h2.symm)
  have G0 : GlobOk glN noEmb w := by
    refine ⟨(fun _ _ z => by cases z), fun p hp => ⟨?_, (fun b g c z => by cases z)⟩⟩
    have hp' : p ∈ [(1, o1), (2, o2)] := hp
    simp only [List.mem_cons, List.not_mem_nil, or_false] at hp'
    rcases hp' with rfl | rfl
    · exact h1
    · exact h2
  have hkok : CallOk P 0 glN hk := by
    have hk0ok : CallOk P 0 glN hk0 := hk2_ok (validA_ok (T := fun w' => Lib.Utf8Tabs 1 2 w') hTT (fun us w => enters plainP Tryz.func264 (by kernel_rfl) us w) (fun s w hs hT => Tryz.utf8_ValidString s w hs hT))
      (decA_ok (T := fun w' => Lib.Utf8Tabs 1 2 w') hTT (fun us w => enters plainP Tryz.func46 (by kernel_rfl) us w) (fun s b off cap w hT hp => Tryz.utf8_DecodeRune s b off cap w hT hp))
    have cl0ok : CallOk P 0 glN cl0 := fun f args h r e => call_ok plainP hk0ok 100000 80 f args h r (by rw [← callF_eq]; exact e)
    refine hk2_ok (hk2_ok hk0ok (tabI_ok cl0ok (List.forall_mem_cons.2 ⟨e0, (fun _ h => by cases h)⟩)))
      (winF_ok (fun us w => enters plainP Tryz.func9 (by kernel_rfl) us w) (fun m a w h0 h1 => withinm_calls m a w h0 h1) ?_)
    intro p hp
    have hp' : p = (0, 99, ints (List.range 99)) := by simpa using hp
    subst hp'
    refine ⟨(show 0 < 99 by decide), (show 99 ≤ 1000 by decide), fun φ w => ?_⟩
    show VR φ w (ints (List.range 99)) (.int .i64 (winm 99 a))
    have hw : winm 99 a = Int.ofNat (winm 99 a).toNat := by show _ = ((winm 99 a).toNat : Int); omega
    rw [hw]
    refine ints_ok ?_ φ w
    show (List.range 99)[(winm 99 a).toNat]? = _
    exact List.getElem?_range (by omega)
  have hcl : CallOk P 0 glN cl := fun f args h r e => call_ok plainP hkok 100000 400 f args h r (by rw [← callF_eq]; exact e)
  have hs : RoundsOk P cl 100000 92 lp stA [] [[(58, .int .i64 1)], [(58, .int .i64 2)], [(58, .int .i64 3)], [(58, .int .i64 4)], [(58, .int .i64 5)], [(58, .int .i64 6)], [(58, .int .i64 7)], [(58, .int .i64 8)], [(58, .int .i64 9)], [(58, .int .i64 10)], [(58, .int .i64 11)], [(58, .int .i64 12)], [(58, .int .i64 13)], [(58, .int .i64 14)], [(58, .int .i64 15)], [(58, .int .i64 16)], [(58, .int .i64 17)], [(58, .int .i64 18)], [(58, .int .i64 19)], [(58, .int .i64 20)], [(58, .int .i64 21)], [(58, .int .i64 22)], [(58, .int .i64 23)], [(58, .int .i64 24)], [(58, .int .i64 25)], [(58, .int .i64 26)], [(58, .int .i64 27)], [(58, .int .i64 28)], [(58, .int .i64 29)], [(58, .int .i64 30)], [(58, .int .i64 31)]] :=
    ⟨rd0, by decide, rd1, by decide, rd2, by decide, rd3, by decide, rd4, by decide, rd5, by decide, rd6, by decide, rd7, by decide, rd8, by decide, rd9, by decide, rd10, by decide, rd11, by decide, rd12, by decide, rd13, by decide, rd14, by decide, rd15, by decide, rd16, by decide, rd17, by decide, rd18, by decide, rd19, by decide, rd20, by decide, rd21, by decide, rd22, by decide, rd23, by decide, rd24, by decide, rd25, by decide, rd26, by decide, rd27, by decide, rd28, by decide, rd29, by decide, rd30, by decide, trivial⟩
  exact law_rounds hcl hmix Tryz.func3 body nt res (by simp) shape G0 (.cons (.arg 0) .nil) (by decide) (show stG P cl 100000 92 [r0, r1, r2, r6] [56, 57, 58] [.arg 0] = stA from rfl) hs rend
end Go.Proofs.YtbndnhkhphkjgaaGreatDoor.ErrsF
