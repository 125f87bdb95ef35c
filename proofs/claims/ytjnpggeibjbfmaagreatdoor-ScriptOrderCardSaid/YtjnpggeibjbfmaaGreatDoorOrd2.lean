/- ScriptOrder: the law's walk, by the machine: whatever the numbers, it returns true and nothing that was there has turned. -/
import Derived.Test.YtjnpggeibjbfmaaGreatDoorOrdk
import Derived.Test.YtjnpggeibjbfmaaGreatDoorOrde0
import Derived.Test.YtjnpggeibjbfmaaGreatDoorOrde1
import Derived.Test.YtjnpggeibjbfmaaGreatDoorOrde2
import Derived.Test.YtjnpggeibjbfmaaGreatDoorOrde3
import Derived.Test.YtjnpggeibjbfmaaGreatDoorOrde4
import Derived.Test.YtjnpggeibjbfmaaGreatDoorOrde5
import Derived.Test.YtjnpggeibjbfmaaGreatDoorOrde6
import Derived.Test.YtjnpggeibjbfmaaGreatDoorOrde7
import Derived.Test.YtjnpggeibjbfmaaGreatDoorOrde8
import Derived.Test.YtjnpggeibjbfmaaGreatDoorOrdr0
import Derived.Test.YtjnpggeibjbfmaaGreatDoorOrdr1
namespace Go.Proofs.YtjnpggeibjbfmaaGreatDoor.OrdF
open Go.Vai
set_option linter.unusedVariables false
set_option maxRecDepth 1000000
theorem plainP : Plain P := by
  refine ⟨fun f fn hf => ?_, by kernel_rfl⟩
  have h : (P.funcs.toList.all fun fn => !(fn.name == "runtime.NumGoroutine")) = true := by kernel_rfl
  have := List.all_eq_true.1 h fn (by simpa using Array.mem_of_getElem? hf)
  simpa using this
theorem body : Tryz.f4.body = some lb := by kernel_rfl
theorem nt : Tryz.f4.ntmps = 112 := by kernel_rfl
theorem res : Tryz.f4.results.toList = [.tmp 4] := by kernel_rfl
theorem clB_ok [Lane] : CallOk P 0 glN clB := fun f args h r e => call_ok plainP noHook_ok 100000 80 f args h r (by rw [← callF_eq]; exact e)
theorem chks_ok : ∀ en ∈ chks, entI clB 22 en = true := (List.forall_mem_cons.2 ⟨c0, (List.forall_mem_cons.2 ⟨c1, (List.forall_mem_cons.2 ⟨c2, (List.forall_mem_cons.2 ⟨c3, (List.forall_mem_cons.2 ⟨c4, (List.forall_mem_cons.2 ⟨c5, (List.forall_mem_cons.2 ⟨c6, (List.forall_mem_cons.2 ⟨c7, (List.forall_mem_cons.2 ⟨c8, (List.forall_mem_cons.2 ⟨c9, (List.forall_mem_cons.2 ⟨c10, (List.forall_mem_cons.2 ⟨c11, (List.forall_mem_cons.2 ⟨c12, (List.forall_mem_cons.2 ⟨c13, (List.forall_mem_cons.2 ⟨c14, (List.forall_mem_cons.2 ⟨c15, (List.forall_mem_cons.2 ⟨c16, (List.forall_mem_cons.2 ⟨c17, (List.forall_mem_cons.2 ⟨c18, (List.forall_mem_cons.2 ⟨c19, (List.forall_mem_cons.2 ⟨c20, (List.forall_mem_cons.2 ⟨c21, (List.forall_mem_cons.2 ⟨c22, (List.forall_mem_cons.2 ⟨c23, (List.forall_mem_cons.2 ⟨c24, (List.forall_mem_cons.2 ⟨c25, (fun _ h => by cases h)⟩)⟩)⟩)⟩)⟩)⟩)⟩)⟩)⟩)⟩)⟩)⟩)⟩)⟩)⟩)⟩)⟩)⟩)⟩)⟩)⟩)⟩)⟩)⟩)⟩)⟩)
theorem hk0_ok [Lane] : CallOk P 0 glN hk0 :=
  hk2_ok (joinA_ok (fun us w => enters plainP Tryz.func293 (by kernel_rfl) us w) Tryz.strings_Join) (hk2_ok (tabI_ok clB_ok chks_ok) (sclA_ok clB_ok (fun us w => enters plainP Tryz.func171 (by kernel_rfl) us w) (List.all_eq_true.1 rss_ok)))
theorem cl0_ok [Lane] : CallOk P 0 glN cl0 := fun f args h r e => call_ok plainP hk0_ok 100000 80 f args h r (by rw [← callF_eq]; exact e)
theorem es_ok : ∀ en ∈ es, entB cl0 21 en = true := (List.forall_mem_cons.2 ⟨e0, (List.forall_mem_cons.2 ⟨e1, (List.forall_mem_cons.2 ⟨e2, (List.forall_mem_cons.2 ⟨e3, (List.forall_mem_cons.2 ⟨e4, (List.forall_mem_cons.2 ⟨e5, (List.forall_mem_cons.2 ⟨e6, (List.forall_mem_cons.2 ⟨e7, (List.forall_mem_cons.2 ⟨e8, (List.forall_mem_cons.2 ⟨e9, (List.forall_mem_cons.2 ⟨e10, (List.forall_mem_cons.2 ⟨e11, (List.forall_mem_cons.2 ⟨e12, (List.forall_mem_cons.2 ⟨e13, (List.forall_mem_cons.2 ⟨e14, (List.forall_mem_cons.2 ⟨e15, (List.forall_mem_cons.2 ⟨e16, (List.forall_mem_cons.2 ⟨e17, (List.forall_mem_cons.2 ⟨e18, (List.forall_mem_cons.2 ⟨e19, (List.forall_mem_cons.2 ⟨e20, (List.forall_mem_cons.2 ⟨e21, (List.forall_mem_cons.2 ⟨e22, (List.forall_mem_cons.2 ⟨e23, (List.forall_mem_cons.2 ⟨e24, (List.forall_mem_cons.2 ⟨e25, (List.forall_mem_cons.2 ⟨e26, (List.forall_mem_cons.2 ⟨e27, (List.forall_mem_cons.2 ⟨e28, (List.forall_mem_cons.2 ⟨e29, (List.forall_mem_cons.2 ⟨e30, (List.forall_mem_cons.2 ⟨e31, (List.forall_mem_cons.2 ⟨e32, (List.forall_mem_cons.2 ⟨e33, (List.forall_mem_cons.2 ⟨e34, (List.forall_mem_cons.2 ⟨e35, (fun _ h => by cases h)⟩)⟩)⟩)⟩)⟩)⟩)⟩)⟩)⟩)⟩)⟩)⟩)⟩)⟩)⟩)⟩)⟩)⟩)⟩)⟩)⟩)⟩)⟩)⟩)⟩)⟩)⟩)⟩)⟩)⟩)⟩)⟩)⟩)⟩)⟩)⟩)
theorem nuv_ok [Lane] {n : Nat} {a : Int} (hn : 10 ≤ n) (hl : Lane.l n = (winm 10 a).toNat) (φ : Emb) (w : World) : VR φ w (nuv n) (.int .i64 (winm 10 a)) := by
  have hr := winm_range 10 (by decide) a
  have hlen : ((low n).map fun j => AV.int .i64 (.ofNat j)).length = n := by simp [low]
  have h2 : (winm 10 a).toNat < n := by omega
  have h3 : (winm 10 a).toNat ≤ 9 := by omega
  have hx : ((low n).map fun j => AV.int .i64 (.ofNat j))[Lane.l ((low n).map fun j => AV.int .i64 (.ofNat j)).length]? = some (.int .i64 (.ofNat (winm 10 a).toNat)) := by
    rw [hlen, hl, List.getElem?_map]
    unfold low
    rw [List.getElem?_map, List.getElem?_range h2]
    have hb : Nat.ble (winm 10 a).toNat 9 = true := Nat.ble_eq_true_of_le h3
    simp [hb]
  have hw : winm 10 a = Int.ofNat (winm 10 a).toNat := by show _ = ((winm 10 a).toNat : Int); omega
  refine .vec _ (.int .i64 (.ofNat (winm 10 a).toNat)) _ hx rfl ?_
  rw [hw]
  exact .int _ _
/-- whose number of runs it is -/
def which (d : Nat) : Nat := match d with | 10 => 3 | 11 => 0 | 12 => 1 | 13 => 2 | 14 => 4 | d => d
theorem law_calls (a1 : Option Addr) (len cap : Nat) (zs : List Int) (t : Int) (w : World)
    (hrow : (a1 = none ∧ len = 0 ∧ cap = 0) ∨ ∃ x, a1 = some x ∧ len ≤ cap ∧ ∀ i, i < cap → w.cell? (x.add i) = some (.int .i64 (zs.getD i 0))) :
    Calls P 4 #[.slice a1 len cap, .int .i64 t] w fun e w' => e = .returned (.bool true) ∧
    (w'.os = w.os ∧ w'.tape = w.tape ∧ w'.output = w.output ∧ w.heap.size ≤ w'.heap.size ∧ ∀ k, k < w.heap.size → w'.heap[k]? = w.heap[k]?) := by
  have hmix : P.follows .mixedOrders = true := plainP.mixed
  letI : Lane := ⟨fun d => (winm 10 (zs.getD (which d) 0)).toNat, fun i => match i with | 8 => len | 9 => t | i => zs.getD i 0, (fun d hd => by
    have hd' : d = 10 ∨ d = 11 ∨ d = 12 ∨ d = 13 ∨ d = 14 := by simpa [DIMS] using hd
    have := winm_range 10 (by decide) (zs.getD (which d) 0)
    omega), (fun d => by
    have := winm_range 10 (by decide) (zs.getD (which d) 0)
    show _ < 10
    omega), (fun p hp => by cases hp), [], .slice a1 len cap⟩
  have hwin : ∀ (m k : Nat), m < 1000 → winm (m + 1) t = k → CallOk P 0 glN (Go.Proofs.YtjnpggeibjbfmaaGreatDoor.OrdF.hk m k) := by
    intro m k hm hk
    refine hk2_ok (tabA_ok cl0_ok es_ok) (winF_ok (fun us w => enters plainP Tryz.func6 (by kernel_rfl) us w) (fun m a w h0 h1 => withinm_calls m a w h0 h1) ?_)
    intro p hp
    have hp' : p = (0, 10, nuv0) ∨ p = (1, 10, nuv1) ∨ p = (2, 10, nuv2) ∨ p = (3, 10, nuv3) ∨ p = (4, 10, nuv4) ∨ p = (9, m + 1, .int .i64 (.ofNat k)) := by simpa [wl] using hp
    rcases hp' with rfl | rfl | rfl | rfl | rfl | rfl
    · exact ⟨(show 0 < 10 by decide), (show 10 ≤ 1000 by decide), fun φ w => nuv_ok (n := 11) (a := zs.getD 0 0) (by decide) rfl φ w⟩
    · exact ⟨(show 0 < 10 by decide), (show 10 ≤ 1000 by decide), fun φ w => nuv_ok (n := 12) (a := zs.getD 1 0) (by decide) rfl φ w⟩
    · exact ⟨(show 0 < 10 by decide), (show 10 ≤ 1000 by decide), fun φ w => nuv_ok (n := 13) (a := zs.getD 2 0) (by decide) rfl φ w⟩
    · exact ⟨(show 0 < 10 by decide), (show 10 ≤ 1000 by decide), fun φ w => nuv_ok (n := 10) (a := zs.getD 3 0) (by decide) rfl φ w⟩
    · exact ⟨(show 0 < 10 by decide), (show 10 ≤ 1000 by decide), fun φ w => nuv_ok (n := 14) (a := zs.getD 4 0) (by decide) rfl φ w⟩
    · refine ⟨Nat.succ_pos m, (show m + 1 ≤ 1000 by omega), fun φ w => ?_⟩
      show VR φ w (.int .i64 (.ofNat k)) (.int .i64 (winm (m + 1) t))
      rw [hk]; exact .int _ _
  have G0 : ∀ φ, GlobOk glN φ w := fun φ => ⟨(fun _ _ z => by cases z), fun p hp => by cases hp⟩
  rcases hrow with ⟨rfl, rfl, rfl⟩ | ⟨x, rfl, hlc, hcell⟩
  · have h1 := winm_range 1 (by decide) t
    have c1 : winm 1 t = (0 : Nat) := by show _ = (0 : Int); omega
    exact law_nums (cb := 0) (co := 0) (fun f args h r e => call_ok plainP (hwin 0 0 (by decide) c1) 100000 80 f args h r (by rw [← callF_eq]; exact e)) hmix Tryz.func4 body nt res (n := 0) (fun z => absurd rfl z) (G0 _) (.cons .nilSlice (.cons (.arg 9) .nil)) (by show 2 ≤ 112; decide) rn
  have hplain : 0 < cap → x = ⟨x.block, x.off, none⟩ ∧ ∃ arr ty fz, w.heap[x.block]? = some (.cells arr ty fz) ∧ ∀ i, i < cap → arr[x.off + i]? = some (.int .i64 (zs.getD i 0)) := by
    intro hc
    have h0 := hcell 0 hc
    obtain ⟨b, o, nn⟩ := x
    cases nn with
    | some q =>
      exfalso
      simp [World.cell?, Addr.add] at h0
      split at h0 <;> cases h0
    | none =>
    refine ⟨rfl, ?_⟩
    cases hb : w.heap[b]? with
    | none => simp [World.cell?, add_plain, hb] at h0
    | some ob =>
      cases ob with
      | cells arr ty fz =>
        refine ⟨arr, ty, fz, rfl, fun i hi => ?_⟩
        have := hcell i hi
        simpa [World.cell?, add_plain, hb] using this
      | _ => simp [World.cell?, add_plain, hb] at h0
  have go : ∀ (n m k : Nat) (ex : Bool) (v : AV), m < 1000 → v = .lslice ⟨0, 0, 0, n⟩ n 8 ex → winm (m + 1) t = k → n ≤ len → (∀ i, i < n → (match i with | 8 => (len : Int) | 9 => t | i => zs.getD i 0) = zs.getD i 0) → (ex = true → len = n) → (ex = false → n ≤ len) → rB v n m k = true →
      Calls P 4 #[.slice (some x) len cap, .int .i64 t] w fun e w' => e = .returned (.bool true) ∧
      (w'.os = w.os ∧ w'.tape = w.tape ∧ w'.output = w.output ∧ w.heap.size ≤ w'.heap.size ∧ ∀ k, k < w.heap.size → w'.heap[k]? = w.heap[k]?) := by
    intro n m k ex v hm hv hk hn hz hx1 hx2 hrun
    subst hv
    refine law_nums (cb := x.block) (co := x.off) (fun f args h r e => call_ok plainP (hwin m k hm hk) 100000 80 f args h r (by rw [← callF_eq]; exact e)) hmix Tryz.func4 body nt res (n := n) (fun hne => ?_) (G0 _) (.cons (.lslice _ x n 8 ex len cap (fun e => ⟨rfl, hx2 e⟩) hx1 ?_ rfl) (.cons (.arg 9) .nil)) (by show 2 ≤ 112; decide) hrun
    · obtain ⟨_, arr, ty, fz, h1, h2⟩ := hplain (by omega)
      exact ⟨arr, ty, fz, h1, fun i hi => by rw [h2 i (by omega)]; exact congrArg (fun z => some (Value.int .i64 z)) (hz i hi).symm⟩
    · by_cases hne : n = 0
      · exact .inl hne
      · obtain ⟨hp, _⟩ := hplain (by omega)
        refine .inr ⟨⟨x.block, x.off, 0, n⟩, ?_, rfl, Nat.le_refl _, ?_⟩
        · unfold numsE textE; rw [if_neg hne, if_pos ⟨rfl, rfl⟩]
        · rw [hp]; simp
  have hat : ∀ i, i < 6 → (match i with | 8 => (len : Int) | 9 => t | i => zs.getD i 0) = zs.getD i 0 := by
    intro i hi
    have : i = 0 ∨ i = 1 ∨ i = 2 ∨ i = 3 ∨ i = 4 ∨ i = 5 := by omega
    rcases this with rfl | rfl | rfl | rfl | rfl | rfl <;> rfl
  have hcases : len = 0 ∨ len = 1 ∨ len = 2 ∨ len = 3 ∨ len = 4 ∨ len = 5 ∨ 6 ≤ len := by omega
  rcases hcases with hcase | hcase | hcase | hcase | hcase | hcase | hcase
  · have hn : len = 0 := hcase
    subst hn
    have h1 := winm_range 1 (by decide) t
    have c1 : winm 1 t = 0 := by omega
    rcases c1 with c1
    · exact go 0 0 0 true _ (by decide) rfl c1 (by omega) (fun i hi => hat i (by omega)) (fun _ => rfl) (fun z => by cases z) rx00
  · have hn : len = 1 := hcase
    subst hn
    have h1 := winm_range 2 (by decide) t
    have c1 : winm 2 t = 0 ∨ winm 2 t = 1 := by omega
    rcases c1 with c1 | c1
    · exact go 1 1 0 true _ (by decide) rfl c1 (by omega) (fun i hi => hat i (by omega)) (fun _ => rfl) (fun z => by cases z) rx10
    · exact go 1 1 1 true _ (by decide) rfl c1 (by omega) (fun i hi => hat i (by omega)) (fun _ => rfl) (fun z => by cases z) rx11
  · have hn : len = 2 := hcase
    subst hn
    have h1 := winm_range 3 (by decide) t
    have c1 : winm 3 t = 0 ∨ winm 3 t = 1 ∨ winm 3 t = 2 := by omega
    rcases c1 with c1 | c1 | c1
    · exact go 2 2 0 true _ (by decide) rfl c1 (by omega) (fun i hi => hat i (by omega)) (fun _ => rfl) (fun z => by cases z) rx20
    · exact go 2 2 1 true _ (by decide) rfl c1 (by omega) (fun i hi => hat i (by omega)) (fun _ => rfl) (fun z => by cases z) rx21
    · exact go 2 2 2 true _ (by decide) rfl c1 (by omega) (fun i hi => hat i (by omega)) (fun _ => rfl) (fun z => by cases z) rx22
  · have hn : len = 3 := hcase
    subst hn
    have h1 := winm_range 4 (by decide) t
    have c1 : winm 4 t = 0 ∨ winm 4 t = 1 ∨ winm 4 t = 2 ∨ winm 4 t = 3 := by omega
    rcases c1 with c1 | c1 | c1 | c1
    · exact go 3 3 0 true _ (by decide) rfl c1 (by omega) (fun i hi => hat i (by omega)) (fun _ => rfl) (fun z => by cases z) rx30
    · exact go 3 3 1 true _ (by decide) rfl c1 (by omega) (fun i hi => hat i (by omega)) (fun _ => rfl) (fun z => by cases z) rx31
    · exact go 3 3 2 true _ (by decide) rfl c1 (by omega) (fun i hi => hat i (by omega)) (fun _ => rfl) (fun z => by cases z) rx32
    · exact go 3 3 3 true _ (by decide) rfl c1 (by omega) (fun i hi => hat i (by omega)) (fun _ => rfl) (fun z => by cases z) rx33
  · have hn : len = 4 := hcase
    subst hn
    have h1 := winm_range 5 (by decide) t
    have c1 : winm 5 t = 0 ∨ winm 5 t = 1 ∨ winm 5 t = 2 ∨ winm 5 t = 3 ∨ winm 5 t = 4 := by omega
    rcases c1 with c1 | c1 | c1 | c1 | c1
    · exact go 4 4 0 true _ (by decide) rfl c1 (by omega) (fun i hi => hat i (by omega)) (fun _ => rfl) (fun z => by cases z) rx40
    · exact go 4 4 1 true _ (by decide) rfl c1 (by omega) (fun i hi => hat i (by omega)) (fun _ => rfl) (fun z => by cases z) rx41
    · exact go 4 4 2 true _ (by decide) rfl c1 (by omega) (fun i hi => hat i (by omega)) (fun _ => rfl) (fun z => by cases z) rx42
    · exact go 4 4 3 true _ (by decide) rfl c1 (by omega) (fun i hi => hat i (by omega)) (fun _ => rfl) (fun z => by cases z) rx43
    · exact go 4 4 4 true _ (by decide) rfl c1 (by omega) (fun i hi => hat i (by omega)) (fun _ => rfl) (fun z => by cases z) rx44
  · have hn : len = 5 := hcase
    subst hn
    have h1 := winm_range 6 (by decide) t
    have c1 : winm 6 t = 0 ∨ winm 6 t = 1 ∨ winm 6 t = 2 ∨ winm 6 t = 3 ∨ winm 6 t = 4 ∨ winm 6 t = 5 := by omega
    rcases c1 with c1 | c1 | c1 | c1 | c1 | c1
    · exact go 5 5 0 true _ (by decide) rfl c1 (by omega) (fun i hi => hat i (by omega)) (fun _ => rfl) (fun z => by cases z) rx50
    · exact go 5 5 1 true _ (by decide) rfl c1 (by omega) (fun i hi => hat i (by omega)) (fun _ => rfl) (fun z => by cases z) rx51
    · exact go 5 5 2 true _ (by decide) rfl c1 (by omega) (fun i hi => hat i (by omega)) (fun _ => rfl) (fun z => by cases z) rx52
    · exact go 5 5 3 true _ (by decide) rfl c1 (by omega) (fun i hi => hat i (by omega)) (fun _ => rfl) (fun z => by cases z) rx53
    · exact go 5 5 4 true _ (by decide) rfl c1 (by omega) (fun i hi => hat i (by omega)) (fun _ => rfl) (fun z => by cases z) rx54
    · exact go 5 5 5 true _ (by decide) rfl c1 (by omega) (fun i hi => hat i (by omega)) (fun _ => rfl) (fun z => by cases z) rx55
  · have h1 := winm_range 6 (by decide) t
    have c1 : winm 6 t = 0 ∨ winm 6 t = 1 ∨ winm 6 t = 2 ∨ winm 6 t = 3 ∨ winm 6 t = 4 ∨ winm 6 t = 5 := by omega
    rcases c1 with c1 | c1 | c1 | c1 | c1 | c1
    · exact go 6 5 0 false _ (by decide) rfl c1 (by omega) (fun i hi => hat i (by omega)) (fun z => by cases z) (fun _ => by omega) rg0
    · exact go 6 5 1 false _ (by decide) rfl c1 (by omega) (fun i hi => hat i (by omega)) (fun z => by cases z) (fun _ => by omega) rg1
    · exact go 6 5 2 false _ (by decide) rfl c1 (by omega) (fun i hi => hat i (by omega)) (fun z => by cases z) (fun _ => by omega) rg2
    · exact go 6 5 3 false _ (by decide) rfl c1 (by omega) (fun i hi => hat i (by omega)) (fun z => by cases z) (fun _ => by omega) rg3
    · exact go 6 5 4 false _ (by decide) rfl c1 (by omega) (fun i hi => hat i (by omega)) (fun z => by cases z) (fun _ => by omega) rg4
    · exact go 6 5 5 false _ (by decide) rfl c1 (by omega) (fun i hi => hat i (by omega)) (fun z => by cases z) (fun _ => by omega) rg5
end Go.Proofs.YtjnpggeibjbfmaaGreatDoor.OrdF
