/- TopMoves: the law's walk, by the machine: whatever the arguments, it returns true and nothing that was there has turned. -/
import Derived.Test.YtjnpggeibjbfmaaGreatDoorMove0
import Derived.Test.YtjnpggeibjbfmaaGreatDoorMove1
import Derived.Test.YtjnpggeibjbfmaaGreatDoorMove2
import Derived.Test.YtjnpggeibjbfmaaGreatDoorMove3
import Derived.Test.YtjnpggeibjbfmaaGreatDoorMove4
import Derived.Test.YtjnpggeibjbfmaaGreatDoorMove5
import Derived.Test.YtjnpggeibjbfmaaGreatDoorMove6
import Derived.Test.YtjnpggeibjbfmaaGreatDoorMove7
import Derived.Test.YtjnpggeibjbfmaaGreatDoorMovi0
import Derived.Test.YtjnpggeibjbfmaaGreatDoorMovi1
import Derived.Test.YtjnpggeibjbfmaaGreatDoorMovi2
import Derived.Test.YtjnpggeibjbfmaaGreatDoorMovi3
import Derived.Test.YtjnpggeibjbfmaaGreatDoorMovi4
import Derived.Test.YtjnpggeibjbfmaaGreatDoorMovi5
import Derived.Test.YtjnpggeibjbfmaaGreatDoorMovi6
import Derived.Test.YtjnpggeibjbfmaaGreatDoorMovi7
import Derived.Test.YtjnpggeibjbfmaaGreatDoorMovr0
import Derived.Test.YtjnpggeibjbfmaaGreatDoorMovr1
import Derived.Test.YtjnpggeibjbfmaaGreatDoorMovr2
import Derived.Test.YtjnpggeibjbfmaaGreatDoorMovr3
import Derived.Test.YtjnpggeibjbfmaaGreatDoorMovr4
import Derived.Test.YtjnpggeibjbfmaaGreatDoorMovr5
import Derived.Test.YtjnpggeibjbfmaaGreatDoorMovr6
import Derived.Test.YtjnpggeibjbfmaaGreatDoorMovr7
import Derived.Test.YtjnpggeibjbfmaaGreatDoorMovr8
import Derived.Test.YtjnpggeibjbfmaaGreatDoorMovr9
import Derived.Test.YtjnpggeibjbfmaaGreatDoorMovr10
import Derived.Test.YtjnpggeibjbfmaaGreatDoorMovr11
import Derived.Test.YtjnpggeibjbfmaaGreatDoorMovr12
namespace Go.Proofs.YtjnpggeibjbfmaaGreatDoor.MovF
open Go.Vai
set_option linter.unusedVariables false
set_option maxRecDepth 1000000
theorem plainP : Plain P := by
  refine ⟨fun f fn hf => ?_, by kernel_rfl⟩
  have h : (P.funcs.toList.all fun fn => !(fn.name == "runtime.NumGoroutine")) = true := by kernel_rfl
  have := List.all_eq_true.1 h fn (by simpa using Array.mem_of_getElem? hf)
  simpa using this
theorem body : Tryz.f3.body = some lb := by kernel_rfl
theorem nt : Tryz.f3.ntmps = 165 := by kernel_rfl
theorem res : Tryz.f3.results.toList = [.tmp 8] := by kernel_rfl
theorem hk0_ok [Lane] : CallOk P 0 glN hk0 :=
  hk2_ok (hk2_ok (insA_ok (fun us w => enters plainP Tryz.func234 (by kernel_rfl) us w) Insw234.room Insw234.grow) (insA_ok (fun us w => enters plainP Tryz.func235 (by kernel_rfl) us w) Insw235.room Insw235.grow)) (repeatA_ok (fun us w => enters plainP Tryz.func152 (by kernel_rfl) us w) Tryz.strings_Repeat)
theorem cl0_ok [Lane] : CallOk P 0 glN cl0 := fun f args h r e => call_ok plainP hk0_ok 100000 80 f args h r (by rw [← callF_eq]; exact e)
theorem law_calls (a0 a1 a2 : Int) (b : Bool) (w : World) : Calls P 3 #[.int .i64 a0, .int .i64 a1, .int .i64 a2, .bool b] w fun e w' => e = .returned (.bool true) ∧
    (w'.os = w.os ∧ w'.tape = w.tape ∧ w'.output = w.output ∧ w.heap.size ≤ w'.heap.size ∧ ∀ k, k < w.heap.size → w'.heap[k]? = w.heap[k]?) := by
  have hr := winm_range 5 (by decide) a0
  have hmix : P.follows .mixedOrders = true := plainP.mixed
  have go : ∀ (n i j : Nat) (b : Bool) (d i0 : Ent), winm 5 a0 = (n - 2 : Nat) → (0 < n ∧ n ≤ 1000) → winm n a1 = i → winm n a2 = j → i < 8 → entB cl0 21 d = true → entB cl0 21 i0 = true → (entAt 8 i i0).out.all scalar2 = true → rB d i0 n i j b = true →
      Calls P 3 #[.int .i64 a0, .int .i64 a1, .int .i64 a2, .bool b] w fun e w' => e = .returned (.bool true) ∧
      (w'.os = w.os ∧ w'.tape = w.tape ∧ w'.output = w.output ∧ w.heap.size ≤ w'.heap.size ∧ ∀ k, k < w.heap.size → w'.heap[k]? = w.heap[k]?) := by
    intro n i j b d i0 hk hn hi hj h8 hd h0 hs hrun
    letI : Lane := ⟨fun _ => i, fun k => match k with | 0 => a0 | 1 => a1 | _ => a2, (fun m hm => Nat.lt_of_lt_of_eq h8 (show 8 = m from (List.mem_singleton.1 (show m ∈ [8] from hm)).symm)), []⟩
    have hds : ∀ en ∈ [d, wkE], entB cl0 21 en = true := List.forall_mem_cons.2 ⟨hd, List.forall_mem_cons.2 ⟨wk_ok, fun _ h => by cases h⟩⟩
    have his : ∀ en ∈ [i0], entB cl0 21 en = true ∧ (entAt 8 (Lane.l 8) en).out.all scalar2 = true := List.forall_mem_cons.2 ⟨⟨h0, hs⟩, fun _ h => by cases h⟩
    have hkok : CallOk P 0 glN (Go.Proofs.YtjnpggeibjbfmaaGreatDoor.MovF.hk [d, wkE] [i0] (n - 2) n i j) := by
      refine hk2_ok (hk2_ok (tabA_ok cl0_ok hds) (tabP_ok 8 cl0_ok his)) (winF_ok (fun us w => enters plainP Tryz.func6 (by kernel_rfl) us w) (fun m a w h0 h1 => withinm_calls m a w h0 h1) ?_)
      intro p hp
      have hp' : p = (0, 5, .int .i64 (.ofNat (n - 2))) ∨ p = (1, n, .int .i64 (.ofNat i)) ∨ p = (2, n, .int .i64 (.ofNat j)) := by simpa [wl] using hp
      rcases hp' with rfl | rfl | rfl
      · refine ⟨(show 0 < 5 by decide), (show 5 ≤ 1000 by decide), fun φ w => ?_⟩
        show VR φ w (.int .i64 (.ofNat (n - 2))) (.int .i64 (winm 5 a0))
        rw [hk]; exact .int _ _
      · refine ⟨hn.1, hn.2, fun φ w => ?_⟩
        show VR φ w (.int .i64 (.ofNat i)) (.int .i64 (winm n a1))
        rw [hi]; exact .int _ _
      · refine ⟨hn.1, hn.2, fun φ w => ?_⟩
        show VR φ w (.int .i64 (.ofNat j)) (.int .i64 (winm n a2))
        rw [hj]; exact .int _ _
    exact law_run (fun f args h r e => call_ok plainP hkok 100000 80 f args h r (by rw [← callF_eq]; exact e)) hmix Tryz.func3 body nt res ⟨(fun _ _ z => by cases z), (fun _ z => by cases z)⟩ (.cons (.arg 0) (.cons (.arg 1) (.cons (.arg 2) (.cons (.bool b) .nil)))) (by show 4 ≤ 165; decide) hrun
  have h : winm 5 a0 = 0 ∨ winm 5 a0 = 1 ∨ winm 5 a0 = 2 ∨ winm 5 a0 = 3 ∨ winm 5 a0 = 4 := by omega
  rcases h with h0 | h0 | h0 | h0 | h0
  · have h1 := winm_range 2 (by decide) a1
    have h2 := winm_range 2 (by decide) a2
    have c1 : winm 2 a1 = 0 ∨ winm 2 a1 = 1 := by omega
    have c2 : winm 2 a2 = 0 ∨ winm 2 a2 = 1 := by omega
    rcases c1 with h1 | h1 <;> rcases c2 with h2 | h2 <;> cases b
    · exact go 2 0 0 false d20f i20f h0 (by decide) h1 h2 (by decide) dk20f ik20f (by decide) rk200f
    · exact go 2 0 0 true d20t i20t h0 (by decide) h1 h2 (by decide) dk20t ik20t (by decide) rk200t
    · exact go 2 0 1 false d20f i21f h0 (by decide) h1 h2 (by decide) dk20f ik21f (by decide) rk201f
    · exact go 2 0 1 true d20t i21t h0 (by decide) h1 h2 (by decide) dk20t ik21t (by decide) rk201t
    · exact go 2 1 0 false d21f i20f h0 (by decide) h1 h2 (by decide) dk21f ik20f (by decide) rk210f
    · exact go 2 1 0 true d21t i20t h0 (by decide) h1 h2 (by decide) dk21t ik20t (by decide) rk210t
    · exact go 2 1 1 false d21f i21f h0 (by decide) h1 h2 (by decide) dk21f ik21f (by decide) rk211f
    · exact go 2 1 1 true d21t i21t h0 (by decide) h1 h2 (by decide) dk21t ik21t (by decide) rk211t
  · have h1 := winm_range 3 (by decide) a1
    have h2 := winm_range 3 (by decide) a2
    have c1 : winm 3 a1 = 0 ∨ winm 3 a1 = 1 ∨ winm 3 a1 = 2 := by omega
    have c2 : winm 3 a2 = 0 ∨ winm 3 a2 = 1 ∨ winm 3 a2 = 2 := by omega
    rcases c1 with h1 | h1 | h1 <;> rcases c2 with h2 | h2 | h2 <;> cases b
    · exact go 3 0 0 false d30f i30f h0 (by decide) h1 h2 (by decide) dk30f ik30f (by decide) rk300f
    · exact go 3 0 0 true d30t i30t h0 (by decide) h1 h2 (by decide) dk30t ik30t (by decide) rk300t
    · exact go 3 0 1 false d30f i31f h0 (by decide) h1 h2 (by decide) dk30f ik31f (by decide) rk301f
    · exact go 3 0 1 true d30t i31t h0 (by decide) h1 h2 (by decide) dk30t ik31t (by decide) rk301t
    · exact go 3 0 2 false d30f i32f h0 (by decide) h1 h2 (by decide) dk30f ik32f (by decide) rk302f
    · exact go 3 0 2 true d30t i32t h0 (by decide) h1 h2 (by decide) dk30t ik32t (by decide) rk302t
    · exact go 3 1 0 false d31f i30f h0 (by decide) h1 h2 (by decide) dk31f ik30f (by decide) rk310f
    · exact go 3 1 0 true d31t i30t h0 (by decide) h1 h2 (by decide) dk31t ik30t (by decide) rk310t
    · exact go 3 1 1 false d31f i31f h0 (by decide) h1 h2 (by decide) dk31f ik31f (by decide) rk311f
    · exact go 3 1 1 true d31t i31t h0 (by decide) h1 h2 (by decide) dk31t ik31t (by decide) rk311t
    · exact go 3 1 2 false d31f i32f h0 (by decide) h1 h2 (by decide) dk31f ik32f (by decide) rk312f
    · exact go 3 1 2 true d31t i32t h0 (by decide) h1 h2 (by decide) dk31t ik32t (by decide) rk312t
    · exact go 3 2 0 false d32f i30f h0 (by decide) h1 h2 (by decide) dk32f ik30f (by decide) rk320f
    · exact go 3 2 0 true d32t i30t h0 (by decide) h1 h2 (by decide) dk32t ik30t (by decide) rk320t
    · exact go 3 2 1 false d32f i31f h0 (by decide) h1 h2 (by decide) dk32f ik31f (by decide) rk321f
    · exact go 3 2 1 true d32t i31t h0 (by decide) h1 h2 (by decide) dk32t ik31t (by decide) rk321t
    · exact go 3 2 2 false d32f i32f h0 (by decide) h1 h2 (by decide) dk32f ik32f (by decide) rk322f
    · exact go 3 2 2 true d32t i32t h0 (by decide) h1 h2 (by decide) dk32t ik32t (by decide) rk322t
  · have h1 := winm_range 4 (by decide) a1
    have h2 := winm_range 4 (by decide) a2
    have c1 : winm 4 a1 = 0 ∨ winm 4 a1 = 1 ∨ winm 4 a1 = 2 ∨ winm 4 a1 = 3 := by omega
    have c2 : winm 4 a2 = 0 ∨ winm 4 a2 = 1 ∨ winm 4 a2 = 2 ∨ winm 4 a2 = 3 := by omega
    rcases c1 with h1 | h1 | h1 | h1 <;> rcases c2 with h2 | h2 | h2 | h2 <;> cases b
    · exact go 4 0 0 false d40f i40f h0 (by decide) h1 h2 (by decide) dk40f ik40f (by decide) rk400f
    · exact go 4 0 0 true d40t i40t h0 (by decide) h1 h2 (by decide) dk40t ik40t (by decide) rk400t
    · exact go 4 0 1 false d40f i41f h0 (by decide) h1 h2 (by decide) dk40f ik41f (by decide) rk401f
    · exact go 4 0 1 true d40t i41t h0 (by decide) h1 h2 (by decide) dk40t ik41t (by decide) rk401t
    · exact go 4 0 2 false d40f i42f h0 (by decide) h1 h2 (by decide) dk40f ik42f (by decide) rk402f
    · exact go 4 0 2 true d40t i42t h0 (by decide) h1 h2 (by decide) dk40t ik42t (by decide) rk402t
    · exact go 4 0 3 false d40f i43f h0 (by decide) h1 h2 (by decide) dk40f ik43f (by decide) rk403f
    · exact go 4 0 3 true d40t i43t h0 (by decide) h1 h2 (by decide) dk40t ik43t (by decide) rk403t
    · exact go 4 1 0 false d41f i40f h0 (by decide) h1 h2 (by decide) dk41f ik40f (by decide) rk410f
    · exact go 4 1 0 true d41t i40t h0 (by decide) h1 h2 (by decide) dk41t ik40t (by decide) rk410t
    · exact go 4 1 1 false d41f i41f h0 (by decide) h1 h2 (by decide) dk41f ik41f (by decide) rk411f
    · exact go 4 1 1 true d41t i41t h0 (by decide) h1 h2 (by decide) dk41t ik41t (by decide) rk411t
    · exact go 4 1 2 false d41f i42f h0 (by decide) h1 h2 (by decide) dk41f ik42f (by decide) rk412f
    · exact go 4 1 2 true d41t i42t h0 (by decide) h1 h2 (by decide) dk41t ik42t (by decide) rk412t
    · exact go 4 1 3 false d41f i43f h0 (by decide) h1 h2 (by decide) dk41f ik43f (by decide) rk413f
    · exact go 4 1 3 true d41t i43t h0 (by decide) h1 h2 (by decide) dk41t ik43t (by decide) rk413t
    · exact go 4 2 0 false d42f i40f h0 (by decide) h1 h2 (by decide) dk42f ik40f (by decide) rk420f
    · exact go 4 2 0 true d42t i40t h0 (by decide) h1 h2 (by decide) dk42t ik40t (by decide) rk420t
    · exact go 4 2 1 false d42f i41f h0 (by decide) h1 h2 (by decide) dk42f ik41f (by decide) rk421f
    · exact go 4 2 1 true d42t i41t h0 (by decide) h1 h2 (by decide) dk42t ik41t (by decide) rk421t
    · exact go 4 2 2 false d42f i42f h0 (by decide) h1 h2 (by decide) dk42f ik42f (by decide) rk422f
    · exact go 4 2 2 true d42t i42t h0 (by decide) h1 h2 (by decide) dk42t ik42t (by decide) rk422t
    · exact go 4 2 3 false d42f i43f h0 (by decide) h1 h2 (by decide) dk42f ik43f (by decide) rk423f
    · exact go 4 2 3 true d42t i43t h0 (by decide) h1 h2 (by decide) dk42t ik43t (by decide) rk423t
    · exact go 4 3 0 false d43f i40f h0 (by decide) h1 h2 (by decide) dk43f ik40f (by decide) rk430f
    · exact go 4 3 0 true d43t i40t h0 (by decide) h1 h2 (by decide) dk43t ik40t (by decide) rk430t
    · exact go 4 3 1 false d43f i41f h0 (by decide) h1 h2 (by decide) dk43f ik41f (by decide) rk431f
    · exact go 4 3 1 true d43t i41t h0 (by decide) h1 h2 (by decide) dk43t ik41t (by decide) rk431t
    · exact go 4 3 2 false d43f i42f h0 (by decide) h1 h2 (by decide) dk43f ik42f (by decide) rk432f
    · exact go 4 3 2 true d43t i42t h0 (by decide) h1 h2 (by decide) dk43t ik42t (by decide) rk432t
    · exact go 4 3 3 false d43f i43f h0 (by decide) h1 h2 (by decide) dk43f ik43f (by decide) rk433f
    · exact go 4 3 3 true d43t i43t h0 (by decide) h1 h2 (by decide) dk43t ik43t (by decide) rk433t
  · have h1 := winm_range 5 (by decide) a1
    have h2 := winm_range 5 (by decide) a2
    have c1 : winm 5 a1 = 0 ∨ winm 5 a1 = 1 ∨ winm 5 a1 = 2 ∨ winm 5 a1 = 3 ∨ winm 5 a1 = 4 := by omega
    have c2 : winm 5 a2 = 0 ∨ winm 5 a2 = 1 ∨ winm 5 a2 = 2 ∨ winm 5 a2 = 3 ∨ winm 5 a2 = 4 := by omega
    rcases c1 with h1 | h1 | h1 | h1 | h1 <;> rcases c2 with h2 | h2 | h2 | h2 | h2 <;> cases b
    · exact go 5 0 0 false d50f i50f h0 (by decide) h1 h2 (by decide) dk50f ik50f (by decide) rk500f
    · exact go 5 0 0 true d50t i50t h0 (by decide) h1 h2 (by decide) dk50t ik50t (by decide) rk500t
    · exact go 5 0 1 false d50f i51f h0 (by decide) h1 h2 (by decide) dk50f ik51f (by decide) rk501f
    · exact go 5 0 1 true d50t i51t h0 (by decide) h1 h2 (by decide) dk50t ik51t (by decide) rk501t
    · exact go 5 0 2 false d50f i52f h0 (by decide) h1 h2 (by decide) dk50f ik52f (by decide) rk502f
    · exact go 5 0 2 true d50t i52t h0 (by decide) h1 h2 (by decide) dk50t ik52t (by decide) rk502t
    · exact go 5 0 3 false d50f i53f h0 (by decide) h1 h2 (by decide) dk50f ik53f (by decide) rk503f
    · exact go 5 0 3 true d50t i53t h0 (by decide) h1 h2 (by decide) dk50t ik53t (by decide) rk503t
    · exact go 5 0 4 false d50f i54f h0 (by decide) h1 h2 (by decide) dk50f ik54f (by decide) rk504f
    · exact go 5 0 4 true d50t i54t h0 (by decide) h1 h2 (by decide) dk50t ik54t (by decide) rk504t
    · exact go 5 1 0 false d51f i50f h0 (by decide) h1 h2 (by decide) dk51f ik50f (by decide) rk510f
    · exact go 5 1 0 true d51t i50t h0 (by decide) h1 h2 (by decide) dk51t ik50t (by decide) rk510t
    · exact go 5 1 1 false d51f i51f h0 (by decide) h1 h2 (by decide) dk51f ik51f (by decide) rk511f
    · exact go 5 1 1 true d51t i51t h0 (by decide) h1 h2 (by decide) dk51t ik51t (by decide) rk511t
    · exact go 5 1 2 false d51f i52f h0 (by decide) h1 h2 (by decide) dk51f ik52f (by decide) rk512f
    · exact go 5 1 2 true d51t i52t h0 (by decide) h1 h2 (by decide) dk51t ik52t (by decide) rk512t
    · exact go 5 1 3 false d51f i53f h0 (by decide) h1 h2 (by decide) dk51f ik53f (by decide) rk513f
    · exact go 5 1 3 true d51t i53t h0 (by decide) h1 h2 (by decide) dk51t ik53t (by decide) rk513t
    · exact go 5 1 4 false d51f i54f h0 (by decide) h1 h2 (by decide) dk51f ik54f (by decide) rk514f
    · exact go 5 1 4 true d51t i54t h0 (by decide) h1 h2 (by decide) dk51t ik54t (by decide) rk514t
    · exact go 5 2 0 false d52f i50f h0 (by decide) h1 h2 (by decide) dk52f ik50f (by decide) rk520f
    · exact go 5 2 0 true d52t i50t h0 (by decide) h1 h2 (by decide) dk52t ik50t (by decide) rk520t
    · exact go 5 2 1 false d52f i51f h0 (by decide) h1 h2 (by decide) dk52f ik51f (by decide) rk521f
    · exact go 5 2 1 true d52t i51t h0 (by decide) h1 h2 (by decide) dk52t ik51t (by decide) rk521t
    · exact go 5 2 2 false d52f i52f h0 (by decide) h1 h2 (by decide) dk52f ik52f (by decide) rk522f
    · exact go 5 2 2 true d52t i52t h0 (by decide) h1 h2 (by decide) dk52t ik52t (by decide) rk522t
    · exact go 5 2 3 false d52f i53f h0 (by decide) h1 h2 (by decide) dk52f ik53f (by decide) rk523f
    · exact go 5 2 3 true d52t i53t h0 (by decide) h1 h2 (by decide) dk52t ik53t (by decide) rk523t
    · exact go 5 2 4 false d52f i54f h0 (by decide) h1 h2 (by decide) dk52f ik54f (by decide) rk524f
    · exact go 5 2 4 true d52t i54t h0 (by decide) h1 h2 (by decide) dk52t ik54t (by decide) rk524t
    · exact go 5 3 0 false d53f i50f h0 (by decide) h1 h2 (by decide) dk53f ik50f (by decide) rk530f
    · exact go 5 3 0 true d53t i50t h0 (by decide) h1 h2 (by decide) dk53t ik50t (by decide) rk530t
    · exact go 5 3 1 false d53f i51f h0 (by decide) h1 h2 (by decide) dk53f ik51f (by decide) rk531f
    · exact go 5 3 1 true d53t i51t h0 (by decide) h1 h2 (by decide) dk53t ik51t (by decide) rk531t
    · exact go 5 3 2 false d53f i52f h0 (by decide) h1 h2 (by decide) dk53f ik52f (by decide) rk532f
    · exact go 5 3 2 true d53t i52t h0 (by decide) h1 h2 (by decide) dk53t ik52t (by decide) rk532t
    · exact go 5 3 3 false d53f i53f h0 (by decide) h1 h2 (by decide) dk53f ik53f (by decide) rk533f
    · exact go 5 3 3 true d53t i53t h0 (by decide) h1 h2 (by decide) dk53t ik53t (by decide) rk533t
    · exact go 5 3 4 false d53f i54f h0 (by decide) h1 h2 (by decide) dk53f ik54f (by decide) rk534f
    · exact go 5 3 4 true d53t i54t h0 (by decide) h1 h2 (by decide) dk53t ik54t (by decide) rk534t
    · exact go 5 4 0 false d54f i50f h0 (by decide) h1 h2 (by decide) dk54f ik50f (by decide) rk540f
    · exact go 5 4 0 true d54t i50t h0 (by decide) h1 h2 (by decide) dk54t ik50t (by decide) rk540t
    · exact go 5 4 1 false d54f i51f h0 (by decide) h1 h2 (by decide) dk54f ik51f (by decide) rk541f
    · exact go 5 4 1 true d54t i51t h0 (by decide) h1 h2 (by decide) dk54t ik51t (by decide) rk541t
    · exact go 5 4 2 false d54f i52f h0 (by decide) h1 h2 (by decide) dk54f ik52f (by decide) rk542f
    · exact go 5 4 2 true d54t i52t h0 (by decide) h1 h2 (by decide) dk54t ik52t (by decide) rk542t
    · exact go 5 4 3 false d54f i53f h0 (by decide) h1 h2 (by decide) dk54f ik53f (by decide) rk543f
    · exact go 5 4 3 true d54t i53t h0 (by decide) h1 h2 (by decide) dk54t ik53t (by decide) rk543t
    · exact go 5 4 4 false d54f i54f h0 (by decide) h1 h2 (by decide) dk54f ik54f (by decide) rk544f
    · exact go 5 4 4 true d54t i54t h0 (by decide) h1 h2 (by decide) dk54t ik54t (by decide) rk544t
  · have h1 := winm_range 6 (by decide) a1
    have h2 := winm_range 6 (by decide) a2
    have c1 : winm 6 a1 = 0 ∨ winm 6 a1 = 1 ∨ winm 6 a1 = 2 ∨ winm 6 a1 = 3 ∨ winm 6 a1 = 4 ∨ winm 6 a1 = 5 := by omega
    have c2 : winm 6 a2 = 0 ∨ winm 6 a2 = 1 ∨ winm 6 a2 = 2 ∨ winm 6 a2 = 3 ∨ winm 6 a2 = 4 ∨ winm 6 a2 = 5 := by omega
    rcases c1 with h1 | h1 | h1 | h1 | h1 | h1 <;> rcases c2 with h2 | h2 | h2 | h2 | h2 | h2 <;> cases b
    · exact go 6 0 0 false d60f i60f h0 (by decide) h1 h2 (by decide) dk60f ik60f (by decide) rk600f
    · exact go 6 0 0 true d60t i60t h0 (by decide) h1 h2 (by decide) dk60t ik60t (by decide) rk600t
    · exact go 6 0 1 false d60f i61f h0 (by decide) h1 h2 (by decide) dk60f ik61f (by decide) rk601f
    · exact go 6 0 1 true d60t i61t h0 (by decide) h1 h2 (by decide) dk60t ik61t (by decide) rk601t
    · exact go 6 0 2 false d60f i62f h0 (by decide) h1 h2 (by decide) dk60f ik62f (by decide) rk602f
    · exact go 6 0 2 true d60t i62t h0 (by decide) h1 h2 (by decide) dk60t ik62t (by decide) rk602t
    · exact go 6 0 3 false d60f i63f h0 (by decide) h1 h2 (by decide) dk60f ik63f (by decide) rk603f
    · exact go 6 0 3 true d60t i63t h0 (by decide) h1 h2 (by decide) dk60t ik63t (by decide) rk603t
    · exact go 6 0 4 false d60f i64f h0 (by decide) h1 h2 (by decide) dk60f ik64f (by decide) rk604f
    · exact go 6 0 4 true d60t i64t h0 (by decide) h1 h2 (by decide) dk60t ik64t (by decide) rk604t
    · exact go 6 0 5 false d60f i65f h0 (by decide) h1 h2 (by decide) dk60f ik65f (by decide) rk605f
    · exact go 6 0 5 true d60t i65t h0 (by decide) h1 h2 (by decide) dk60t ik65t (by decide) rk605t
    · exact go 6 1 0 false d61f i60f h0 (by decide) h1 h2 (by decide) dk61f ik60f (by decide) rk610f
    · exact go 6 1 0 true d61t i60t h0 (by decide) h1 h2 (by decide) dk61t ik60t (by decide) rk610t
    · exact go 6 1 1 false d61f i61f h0 (by decide) h1 h2 (by decide) dk61f ik61f (by decide) rk611f
    · exact go 6 1 1 true d61t i61t h0 (by decide) h1 h2 (by decide) dk61t ik61t (by decide) rk611t
    · exact go 6 1 2 false d61f i62f h0 (by decide) h1 h2 (by decide) dk61f ik62f (by decide) rk612f
    · exact go 6 1 2 true d61t i62t h0 (by decide) h1 h2 (by decide) dk61t ik62t (by decide) rk612t
    · exact go 6 1 3 false d61f i63f h0 (by decide) h1 h2 (by decide) dk61f ik63f (by decide) rk613f
    · exact go 6 1 3 true d61t i63t h0 (by decide) h1 h2 (by decide) dk61t ik63t (by decide) rk613t
    · exact go 6 1 4 false d61f i64f h0 (by decide) h1 h2 (by decide) dk61f ik64f (by decide) rk614f
    · exact go 6 1 4 true d61t i64t h0 (by decide) h1 h2 (by decide) dk61t ik64t (by decide) rk614t
    · exact go 6 1 5 false d61f i65f h0 (by decide) h1 h2 (by decide) dk61f ik65f (by decide) rk615f
    · exact go 6 1 5 true d61t i65t h0 (by decide) h1 h2 (by decide) dk61t ik65t (by decide) rk615t
    · exact go 6 2 0 false d62f i60f h0 (by decide) h1 h2 (by decide) dk62f ik60f (by decide) rk620f
    · exact go 6 2 0 true d62t i60t h0 (by decide) h1 h2 (by decide) dk62t ik60t (by decide) rk620t
    · exact go 6 2 1 false d62f i61f h0 (by decide) h1 h2 (by decide) dk62f ik61f (by decide) rk621f
    · exact go 6 2 1 true d62t i61t h0 (by decide) h1 h2 (by decide) dk62t ik61t (by decide) rk621t
    · exact go 6 2 2 false d62f i62f h0 (by decide) h1 h2 (by decide) dk62f ik62f (by decide) rk622f
    · exact go 6 2 2 true d62t i62t h0 (by decide) h1 h2 (by decide) dk62t ik62t (by decide) rk622t
    · exact go 6 2 3 false d62f i63f h0 (by decide) h1 h2 (by decide) dk62f ik63f (by decide) rk623f
    · exact go 6 2 3 true d62t i63t h0 (by decide) h1 h2 (by decide) dk62t ik63t (by decide) rk623t
    · exact go 6 2 4 false d62f i64f h0 (by decide) h1 h2 (by decide) dk62f ik64f (by decide) rk624f
    · exact go 6 2 4 true d62t i64t h0 (by decide) h1 h2 (by decide) dk62t ik64t (by decide) rk624t
    · exact go 6 2 5 false d62f i65f h0 (by decide) h1 h2 (by decide) dk62f ik65f (by decide) rk625f
    · exact go 6 2 5 true d62t i65t h0 (by decide) h1 h2 (by decide) dk62t ik65t (by decide) rk625t
    · exact go 6 3 0 false d63f i60f h0 (by decide) h1 h2 (by decide) dk63f ik60f (by decide) rk630f
    · exact go 6 3 0 true d63t i60t h0 (by decide) h1 h2 (by decide) dk63t ik60t (by decide) rk630t
    · exact go 6 3 1 false d63f i61f h0 (by decide) h1 h2 (by decide) dk63f ik61f (by decide) rk631f
    · exact go 6 3 1 true d63t i61t h0 (by decide) h1 h2 (by decide) dk63t ik61t (by decide) rk631t
    · exact go 6 3 2 false d63f i62f h0 (by decide) h1 h2 (by decide) dk63f ik62f (by decide) rk632f
    · exact go 6 3 2 true d63t i62t h0 (by decide) h1 h2 (by decide) dk63t ik62t (by decide) rk632t
    · exact go 6 3 3 false d63f i63f h0 (by decide) h1 h2 (by decide) dk63f ik63f (by decide) rk633f
    · exact go 6 3 3 true d63t i63t h0 (by decide) h1 h2 (by decide) dk63t ik63t (by decide) rk633t
    · exact go 6 3 4 false d63f i64f h0 (by decide) h1 h2 (by decide) dk63f ik64f (by decide) rk634f
    · exact go 6 3 4 true d63t i64t h0 (by decide) h1 h2 (by decide) dk63t ik64t (by decide) rk634t
    · exact go 6 3 5 false d63f i65f h0 (by decide) h1 h2 (by decide) dk63f ik65f (by decide) rk635f
    · exact go 6 3 5 true d63t i65t h0 (by decide) h1 h2 (by decide) dk63t ik65t (by decide) rk635t
    · exact go 6 4 0 false d64f i60f h0 (by decide) h1 h2 (by decide) dk64f ik60f (by decide) rk640f
    · exact go 6 4 0 true d64t i60t h0 (by decide) h1 h2 (by decide) dk64t ik60t (by decide) rk640t
    · exact go 6 4 1 false d64f i61f h0 (by decide) h1 h2 (by decide) dk64f ik61f (by decide) rk641f
    · exact go 6 4 1 true d64t i61t h0 (by decide) h1 h2 (by decide) dk64t ik61t (by decide) rk641t
    · exact go 6 4 2 false d64f i62f h0 (by decide) h1 h2 (by decide) dk64f ik62f (by decide) rk642f
    · exact go 6 4 2 true d64t i62t h0 (by decide) h1 h2 (by decide) dk64t ik62t (by decide) rk642t
    · exact go 6 4 3 false d64f i63f h0 (by decide) h1 h2 (by decide) dk64f ik63f (by decide) rk643f
    · exact go 6 4 3 true d64t i63t h0 (by decide) h1 h2 (by decide) dk64t ik63t (by decide) rk643t
    · exact go 6 4 4 false d64f i64f h0 (by decide) h1 h2 (by decide) dk64f ik64f (by decide) rk644f
    · exact go 6 4 4 true d64t i64t h0 (by decide) h1 h2 (by decide) dk64t ik64t (by decide) rk644t
    · exact go 6 4 5 false d64f i65f h0 (by decide) h1 h2 (by decide) dk64f ik65f (by decide) rk645f
    · exact go 6 4 5 true d64t i65t h0 (by decide) h1 h2 (by decide) dk64t ik65t (by decide) rk645t
    · exact go 6 5 0 false d65f i60f h0 (by decide) h1 h2 (by decide) dk65f ik60f (by decide) rk650f
    · exact go 6 5 0 true d65t i60t h0 (by decide) h1 h2 (by decide) dk65t ik60t (by decide) rk650t
    · exact go 6 5 1 false d65f i61f h0 (by decide) h1 h2 (by decide) dk65f ik61f (by decide) rk651f
    · exact go 6 5 1 true d65t i61t h0 (by decide) h1 h2 (by decide) dk65t ik61t (by decide) rk651t
    · exact go 6 5 2 false d65f i62f h0 (by decide) h1 h2 (by decide) dk65f ik62f (by decide) rk652f
    · exact go 6 5 2 true d65t i62t h0 (by decide) h1 h2 (by decide) dk65t ik62t (by decide) rk652t
    · exact go 6 5 3 false d65f i63f h0 (by decide) h1 h2 (by decide) dk65f ik63f (by decide) rk653f
    · exact go 6 5 3 true d65t i63t h0 (by decide) h1 h2 (by decide) dk65t ik63t (by decide) rk653t
    · exact go 6 5 4 false d65f i64f h0 (by decide) h1 h2 (by decide) dk65f ik64f (by decide) rk654f
    · exact go 6 5 4 true d65t i64t h0 (by decide) h1 h2 (by decide) dk65t ik64t (by decide) rk654t
    · exact go 6 5 5 false d65f i65f h0 (by decide) h1 h2 (by decide) dk65f ik65f (by decide) rk655f
    · exact go 6 5 5 true d65t i65t h0 (by decide) h1 h2 (by decide) dk65t ik65t (by decide) rk655t
end Go.Proofs.YtjnpggeibjbfmaaGreatDoor.MovF
