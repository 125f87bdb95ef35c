/- The abstract machine: functions whose answers are shown by hand (hooks): what leaves all that was there as it was, strings.Join, strings.Repeat. -/
import Derived.Test.YtbndnhkhphkjgaaGreatDoorVaiU
import Derived.Lib.Join
import Derived.Lib.Repeat
namespace Go.Vai
set_option linter.unusedVariables false
set_option linter.unusedSimpArgs false
set_option linter.unusedSectionVars false
/-- one function's hook -/
def hkF (f : Nat) (g : List AV → Heap → Option (AV × Heap)) : HookT := fun f' args h => cond (Nat.beq f' f) (g args h) none
def hk2 (x y : HookT) : HookT := fun f args h => orHook (x f args h) (y f args h)
def strOf : AV → Option (List UInt8)
  | .str l => some l
  | _ => none
def joinA (args : List AV) (h : Heap) : Option (AV × Heap) :=
  match args with
  | [.slice (some a) n _ sz, .str sep] => cond (Nat.beq sz 1 && (Nat.blt 0 n && Nat.ble n 65536)) ((loadN h a 0 n).bind fun vs => (mapO strOf vs).bind fun ls => cond (Nat.ble (Lib.join ls sep).length 65536) (some (.str (Lib.join ls sep), h)) none) none
  | _ => none
def repeatA (args : List AV) (h : Heap) : Option (AV × Heap) :=
  match args with
  | [.str s, .int .i64 (.ofNat c)] => cond (Nat.ble c 65536 && Nat.ble s.length 65536) (some (.str (Lib.repeatL s c), h)) none
  | _ => none
section
variable [Lane]
variable {P : Program} {base : Nat} {φ φ' φ'' : Emb} {h h' h'' : Heap} {w w' w'' : World} {glob : Nat → Option AV}
theorem lt_of_heap {α : Type} {x : Array α} {k : Nat} {o : α} (e : x[k]? = some o) : k < x.size := by
  rcases Nat.lt_or_ge k x.size with q | q
  · exact q
  · rw [Array.getElem?_eq_none q] at e; cases e
/-- what was there is as it was: a step at which nothing is known anew -/
theorem below_step (H : HR base φ h w) (b : Go.RowKit.Below w.heap.size w w') : Step base φ h w φ h w' := by
  have rows : Rows w w' := by
    rintro cb n ⟨arr, t, fz, q1, q2, q3⟩
    exact ⟨arr, t, fz, (b.block cb (lt_of_heap q1)).trans q1, q2, q3⟩
  refine ⟨⟨⟨H.fresh, Nat.le_trans H.low b.size, fun x g c e => Nat.lt_of_lt_of_le (H.range x g c e) b.size, H.inj, H.los, ?_, ?_⟩, Ext.refl _, rows, ⟨b.os, b.tape, b.output, b.size, fun cb hlt _ => b.block cb hlt⟩, fun x g c e _ => ⟨g, c, e, rfl⟩, Nat.le_refl _, fun _ _ q => q⟩, fun x m n cur g c e1 e2 => ⟨b.block c.cb (H.range x g c e2), rfl⟩⟩
  · intro x ro gen cs g c e1 e2
    obtain ⟨q1, q2, q3, arr, t, fz, q4, q5, q6⟩ := H.cells x ro gen cs g c e1 e2
    refine ⟨q1, q2, q3, arr, t, fz, (b.block c.cb (H.range x g c e2)).trans q4, q5, ?_⟩
    intro i lo v k1 k2 k3 k4
    obtain ⟨u, r1, r2, r3⟩ := q6 i lo v k1 k2 k3 k4
    exact ⟨u, r1, r2.mono (Ext.refl _) rows, r3⟩
  · intro x y g c e1 e2 e3
    obtain ⟨q1, q2, o, q3, q4⟩ := H.other x y g c e1 e2 e3
    exact ⟨q1, q2, o, (b.block c.cb (H.range x g c e3)).trans q3, q4.mono (Ext.refl _) rows⟩
theorem hkF_ok {f : Nat} {g : List AV → Heap → Option (AV × Heap)} (hen : ∀ us w, (callFunc f us).run P w = .ok (.enter f us) w)
    (hg : ∀ args h r, g args h = some r → ∀ φ w (us : Array Value), HR base φ h w → GlobOk glob φ w → All2 (VR φ w) args us.toList → Calls P f us w (fun e w' => ∃ v φ', e = .returned v ∧ Step base φ h w φ' r.2 w' ∧ VR φ' w' r.1 v)) : CallOk P base glob (hkF f g) := by
  intro f' args h r e φ w us H G hl
  unfold hkF at e
  cases q : Nat.beq f' f with
  | false => rw [q] at e; cases e
  | true =>
    have q' := Nat.eq_of_beq_eq_true q
    subst q'
    rw [q, cond_true] at e
    exact .inl ⟨hen us w, hg args h r e φ w us H G hl⟩
theorem hk2_ok {x y : HookT} (hx : CallOk P base glob x) (hy : CallOk P base glob y) : CallOk P base glob (hk2 x y) := orHook_ok hx hy
theorem loadN_each {a : Loc} : ∀ (n j : Nat) (vs : List AV), loadN h a j n = some vs → vs.length = n ∧ ∀ (i : Nat) (v : AV), vs[i]? = some v → loadC h a (j + i) = some v
  | 0, j, vs, e => by
    simp only [loadN, Option.some.injEq] at e
    subst e
    exact ⟨rfl, fun i v q => by simp at q⟩
  | n + 1, j, vs, e => by
    simp only [loadN, Option.bind_eq_some_iff, Option.some.injEq] at e
    obtain ⟨v, hv, r, hr, rfl⟩ := e
    obtain ⟨k1, k2⟩ := loadN_each n (j + 1) r hr
    refine ⟨by simp [k1], fun i x q => ?_⟩
    cases i with
    | zero => simp at q; subst q; exact hv
    | succ i =>
      simp at q
      have := k2 i x q
      rwa [show j + 1 + i = j + (i + 1) by omega] at this
theorem strOf_all : ∀ {vs : List AV} {ls : List (List UInt8)}, mapO strOf vs = some ls → vs = ls.map AV.str
  | [], ls, e => by simp only [mapO, Option.some.injEq] at e; subst e; rfl
  | v :: vs, ls, e => by
    simp only [mapO, Option.bind_eq_some_iff, Option.some.injEq] at e
    obtain ⟨l, hl, r, hr, rfl⟩ := e
    rw [strOf_all hr]
    cases v <;> first | (cases hl; done) | skip
    cases hl
    rfl
theorem joinA_ok {f : Nat} (hen : ∀ us w, (callFunc f us).run P w = .ok (.enter f us) w)
    (hJ : ∀ (bk o c : Nat) (xs : List ByteArray) (sep : ByteArray) (w : World), (∀ (j : Nat) x, xs[j]? = some x → w.cell? ⟨bk, o + j, none⟩ = some (.string x)) → bk < w.heap.size → xs.length ≤ 140737488355328 → xs.length ≤ c → (Lib.join (xs.map (·.data.toList)) sep.data.toList).length ≤ 140737488355328 →
      Calls P f #[.slice (some ⟨bk, o, none⟩) xs.length c, .string sep] w fun e w' => e = .returned (.string ⟨(Lib.join (xs.map (·.data.toList)) sep.data.toList).toArray⟩) ∧ Go.RowKit.Below w.heap.size w w') : CallOk P base glob (hkF f joinA) := by
  refine hkF_ok hen ?_
  intro args h r e φ w us H G hl
  unfold joinA at e
  split at e
  case h_2 => cases e
  rename_i a n room sz sep
  cases hc : (Nat.beq sz 1 && (Nat.blt 0 n && Nat.ble n 65536)) with
  | false => rw [hc] at e; cases e
  | true =>
  rw [hc, cond_true] at e
  simp only [Bool.and_eq_true] at hc
  obtain ⟨h1, h2, h3⟩ := hc
  have h1 := Nat.eq_of_beq_eq_true h1
  have h2 := Nat.le_of_ble_eq_true h2
  have h3 := Nat.le_of_ble_eq_true h3
  subst h1
  simp only [Option.bind_eq_some_iff] at e
  obtain ⟨vs, hvs, ls, hls, e⟩ := e
  cases hb : Nat.ble (Lib.join ls sep).length 65536 with
  | false => rw [hb] at e; cases e
  | true =>
  rw [hb, cond_true] at e
  cases e
  have hb := Nat.le_of_ble_eq_true hb
  obtain ⟨us⟩ := us
  cases hl with
  | cons hs ht =>
  cases ht with
  | cons hsep ht =>
  cases ht
  cases hsep
  cases hs with
  | slice _ ad _ _ _ cap g1 g2 g3 g4 g5 =>
  rcases g5 with g5 | ⟨g5, arr, t', fz, g6, g7, g8⟩
  · omega
  obtain ⟨e1, e2⟩ := loadN_each _ _ _ hvs
  rw [strOf_all hls] at e1 e2
  rw [List.length_map] at e1
  have hxs : (ls.map (fun l => (⟨⟨l⟩⟩ : ByteArray))).map (·.data.toList) = ls := by
    rw [List.map_map]
    exact List.map_id' _
  have key := hJ ad.block ad.off cap (ls.map fun l => ⟨⟨l⟩⟩) ⟨⟨sep⟩⟩ w ?_ (lt_of_heap g6) (by rw [List.length_map]; omega) (by rw [List.length_map]; omega) (by rw [hxs]; exact Nat.le_trans hb (by decide))
  · rw [hxs, List.length_map, e1] at key
    have hform := g5.form
    rw [hform]
    refine key.mono ?_
    rintro _ w' ⟨rfl, hB⟩
    refine ⟨_, φ, rfl, below_step H hB, ?_⟩
    exact .str _
  · intro j x hx
    rw [List.getElem?_map, Option.map_eq_some_iff] at hx
    obtain ⟨l, hl, rfl⟩ := hx
    have hv := e2 j (.str l) (by rw [List.getElem?_map, hl]; rfl)
    obtain ⟨u, k1, k2, _⟩ := loadC_cell H g5 hv
    cases k2
    rw [g5.form, add_plain] at k1
    simpa using k1
theorem repeatA_ok {f : Nat} (hen : ∀ us w, (callFunc f us).run P w = .ok (.enter f us) w)
    (hR : ∀ (s : ByteArray) (c : Nat) (w : World), c ≤ 9223372036854775807 → s.size * c ≤ 140737488355328 →
      Calls P f #[.string s, .int .i64 c] w fun e w' => e = .returned (.string ⟨(Lib.repeatL s.data.toList c).toArray⟩) ∧ Go.RowKit.Below w.heap.size w w') : CallOk P base glob (hkF f repeatA) := by
  refine hkF_ok hen ?_
  intro args h r e φ w us H G hl
  unfold repeatA at e
  split at e
  case h_2 => cases e
  rename_i s c
  cases hc : (Nat.ble c 65536 && Nat.ble s.length 65536) with
  | false => rw [hc] at e; cases e
  | true =>
  rw [hc, cond_true] at e
  cases e
  simp only [Bool.and_eq_true] at hc
  have h1 := Nat.le_of_ble_eq_true hc.1
  have h2 := Nat.le_of_ble_eq_true hc.2
  obtain ⟨us⟩ := us
  cases hl with
  | cons hs ht =>
  cases ht with
  | cons hsep ht =>
  cases ht
  cases hsep
  cases hs
  have hm : s.length * c ≤ 65536 * 65536 := Nat.mul_le_mul h2 h1
  refine (hR ⟨⟨s⟩⟩ c w (by omega) (by show s.length * c ≤ _; omega)).mono ?_
  rintro _ w' ⟨rfl, hB⟩
  exact ⟨_, φ, rfl, below_step H hB, .str _⟩
end
end Go.Vai
