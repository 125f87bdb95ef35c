/- The abstract machine: functions that the model answers by itself. -/
import Derived.Test.YtbndnhkhphkjgaaGreatDoorVai11l
import Derived.KernelRfl
namespace Go.Vai
set_option linter.unusedVariables false
set_option linter.unusedSimpArgs false
set_option linter.unusedSectionVars false
variable [Lane]
variable {P : Program} {base : Nat} {φ φ' φ'' : Emb} {h h' h'' : Heap} {w w' w'' : World}

theorem byteOf_ok {v : AV} {u : Value} {c : UInt8} (hv : VR φ w v u) (e : byteOf v = some c) : ∃ n : Int, u = .int .u8 n ∧ c = n.toNat.toUInt8 := by
  unfold byteOf at e
  split at e
  · rename_i n
    cases e
    cases hv
    exact ⟨n, rfl, rfl⟩
  · cases e
theorem loadBytes_ok (H : HR base φ h w) {a : Loc} {ad : Addr} (k : LR φ a ad) : ∀ (n j : Nat) (vs : List AV) (l : List UInt8) (acc : List UInt8), loadN h a j n = some vs → mapO byteOf vs = some l →
    (Extern.Bytes.loadBytes (ad.add j) n ⟨⟨acc⟩⟩).run P w = .ok ⟨⟨acc ++ l⟩⟩ w
  | 0, j, vs, l, acc, e, e' => by
    simp only [loadN, Option.some.injEq] at e
    subst e
    simp only [mapO, Option.some.injEq] at e'
    subst e'
    simp [Extern.Bytes.loadBytes]
  | n + 1, j, vs, l, acc, e, e' => by
    simp only [loadN, Option.bind_eq_some_iff, Option.some.injEq] at e
    obtain ⟨v, hv, r, hr, rfl⟩ := e
    simp only [mapO, Option.bind_eq_some_iff, Option.some.injEq] at e'
    obtain ⟨c, hc, l', hl', rfl⟩ := e'
    obtain ⟨u, hu, hvr, _⟩ := loadC_cell H k hv
    obtain ⟨m, rfl, rfl⟩ := byteOf_ok hvr hc
    have ih := loadBytes_ok H k n (j + 1) r l' (acc ++ [m.toNat.toUInt8]) hr hl'
    have hadd : (ad.add j).add 1 = ad.add (j + 1) := by
      rw [k.form, add_plain, add_plain, add_plain, Nat.add_assoc]
    unfold Extern.Bytes.loadBytes
    have hl : (load (ad.add j)).run P w = .ok (.int .u8 m) w := by simp only [load, Sem.run, hu]
    simp only [Sem.run_bind, hl, Result.andThen_ok, hadd]
    rw [List.append_assoc] at ih
    have hp : (⟨⟨acc⟩⟩ : ByteArray).push m.toNat.toUInt8 = ⟨⟨acc ++ [m.toNat.toUInt8]⟩⟩ := by
      unfold ByteArray.push; simp
    rw [hp]
    exact ih
theorem bytesOf_ok (H : HR base φ h w) {x : AV} {xv : Value} (hx : VR φ w x xv) {l : List UInt8} (e : bytesO h x = some l) : (Extern.Bytes.bytesOf xv).run P w = .ok ⟨⟨l⟩⟩ w := by
  unfold bytesO at e
  split at e
  · cases e; cases hx; rfl
  · cases e; cases hx; rfl
  · rename_i a n room sz
    split at e
    case isFalse => cases e
    rename_i hsz
    subst hsz
    simp only [Option.bind_eq_some_iff] at e
    obtain ⟨vs, hvs, hl⟩ := e
    cases hx with
    | slice _ ad _ _ _ cap g1 g2 g3 g4 g5 =>
    unfold Extern.Bytes.bytesOf
    rcases g5 with g5 | ⟨g5, _⟩
    · have : n = 0 := by omega
      subst this
      simp only [loadN, Option.some.injEq] at hvs
      subst hvs
      simp only [mapO, Option.some.injEq] at hl
      subst hl
      simp [Extern.Bytes.loadBytes]; rfl
    · have := loadBytes_ok (P := P) H g5 n 0 vs l [] hvs hl
      exact this
  · cases e
theorem findI_range (c : UInt8) : ∀ (l : List UInt8) (k : Nat) (p : Nat → Bool), (∀ i, (hi : i < l.length) → p (k + i) = (l[i] == c)) → (List.range' k l.length).find? p = findI c l k
  | [], k, p, _ => rfl
  | x :: l, k, p, hp => by
    rw [List.length_cons, List.range'_succ, List.find?_cons]
    have h0 := hp 0 (by simp)
    simp only [Nat.add_zero, List.getElem_cons_zero] at h0
    rw [h0]
    unfold findI
    cases x == c with
    | true => rfl
    | false =>
      simp only [cond_false]
      refine findI_range c l (k + 1) p fun i hi => ?_
      have := hp (i + 1) (by simpa using hi)
      rw [show k + 1 + i = k + (i + 1) by omega, this, List.getElem_cons_succ]
theorem indexByte_ok (H : HR base φ h w) {args : List AV} {us : Array Value} (ha : All2 (VR φ w) args us.toList) {r : AV × Heap} (e : indexByteA h args = some r) :
    r.2 = h ∧ ∃ u, (Extern.BytealgIndexByte.indexByte us).run P w = .ok u w ∧ VR φ w r.1 u := by
  unfold indexByteA at e
  split at e
  case h_2 => cases e
  rename_i b c
  simp only [Option.bind_eq_some_iff, Option.map_eq_some_iff] at e
  obtain ⟨l, hl, c', hc, rfl⟩ := e
  obtain ⟨bv, cv, rfl, hb, hcv⟩ := two_arr ha
  refine ⟨rfl, ?_⟩
  have h1 := bytesOf_ok (P := P) H hb hl
  obtain ⟨n, rfl, rfl⟩ := byteOf_ok hcv hc
  have h2 : (Extern.Bytes.asByte (.int .u8 n)).run P w = .ok n.toNat.toUInt8 w := rfl
  have h3 : (List.range (⟨⟨l⟩⟩ : ByteArray).size).find? (fun i => (⟨⟨l⟩⟩ : ByteArray)[i]! == n.toNat.toUInt8) = findI n.toNat.toUInt8 l 0 := by
    have hs : (⟨⟨l⟩⟩ : ByteArray).size = l.length := rfl
    rw [hs, List.range_eq_range']
    refine findI_range _ l 0 _ fun i hi => ?_
    have : (⟨⟨l⟩⟩ : ByteArray)[i]! = l[i] := by
      rw [getElem!_pos (⟨⟨l⟩⟩ : ByteArray) i (by rw [hs]; exact hi)]
      rfl
    rw [Nat.zero_add, this]
  have hd : Extern.BytealgIndexByte.indexByte #[bv, .int .u8 n] = (do
      let b ← Extern.Bytes.bytesOf bv
      let c ← Extern.Bytes.asByte (.int .u8 n)
      match (List.range b.size).find? fun i => b[i]! == c with
      | some i => pure (goInt i)
      | none => pure (goInt (-1))) := rfl
  rw [hd]
  simp only [Sem.run_bind, h1, h2, Result.andThen_ok, h3]
  cases findI n.toNat.toUInt8 l 0 with
  | none => exact ⟨_, rfl, .int _ _⟩
  | some i => exact ⟨_, rfl, .int _ _⟩
theorem next_none {fn : Func} (ho : fn.origin = "") (hn : fn.name = "internal/bytealg.IndexByte" ∨ fn.name = "internal/bytealg.IndexByteString") : Extern.findNext fn = none := by
  have e0 : Extern.allNextRows.lookup "" = none := by kernel_rfl
  have e1 : Extern.allNextRows.lookup "internal/bytealg.IndexByte" = none := by kernel_rfl
  have e2 : Extern.allNextRows.lookup "internal/bytealg.IndexByteString" = none := by kernel_rfl
  unfold Extern.findNext
  rcases hn with hn | hn <;> simp [hn, ho, e0, e1, e2]
theorem find_index {fn : Func} (hn : fn.name = "internal/bytealg.IndexByte" ∨ fn.name = "internal/bytealg.IndexByteString") : Extern.find fn = some Extern.BytealgIndexByte.indexByte := by
  have e1 : Extern.allGenericRows.lookup "internal/bytealg.IndexByte" = none := by kernel_rfl
  have e2 : Extern.allGenericRows.lookup "internal/bytealg.IndexByteString" = none := by kernel_rfl
  have f1 : Extern.allTypedRows.lookup "internal/bytealg.IndexByte" = none := by kernel_rfl
  have f2 : Extern.allTypedRows.lookup "internal/bytealg.IndexByteString" = none := by kernel_rfl
  have g1 : Extern.allRows.lookup "internal/bytealg.IndexByte" = some Extern.BytealgIndexByte.indexByte := by kernel_rfl
  have g2 : Extern.allRows.lookup "internal/bytealg.IndexByteString" = some Extern.BytealgIndexByte.indexByte := by kernel_rfl
  unfold Extern.find
  rcases hn with hn | hn <;> simp [hn, e1, e2, f1, f2, g1, g2]
theorem ext_ok (H : HR base φ h w) {f : FuncId} {fn : Func} (hf : P.funcs[f]? = some fn) (hb : fn.body = none) (hg : (fn.name == "runtime.NumGoroutine") = false) {args : List AV} {us : Array Value} (ha : All2 (VR φ w) args us.toList) {r : AV × Heap} (e : extA fn args h = some r) :
    r.2 = h ∧ ∃ u, (callFunc f us).run P w = .ok (.value u) w ∧ VR φ w r.1 u := by
  unfold extA at e
  split at e
  case isFalse => cases e
  rename_i ho
  have key : ∀ (hn : fn.name = "internal/bytealg.IndexByte" ∨ fn.name = "internal/bytealg.IndexByteString"), indexByteA h args = some r → r.2 = h ∧ ∃ u, (callFunc f us).run P w = .ok (.value u) w ∧ VR φ w r.1 u := by
    intro hn e
    obtain ⟨h1, u, h2, h3⟩ := indexByte_ok (P := P) H ha e
    refine ⟨h1, u, ?_, h3⟩
    have hg' : fn.name ≠ "runtime.NumGoroutine" := by simpa using hg
    unfold callFunc
    simp only [Sem.run_bind, run_program, Result.andThen_ok, hf, hg, Bool.false_eq_true, if_false, hb, Option.isNone_none, if_true, next_none ho hn, find_index hn, h2, Sem.run_pure, run_mark]
  split at e
  · rename_i hn; exact key (.inl hn) e
  · split at e
    · rename_i hn; exact key (.inr hn) e
    · cases e
theorem extL_ok (H : HR base φ h w) {f : FuncId} {fn : Func} (hf : P.funcs[f]? = some fn) (hb : fn.body = none) (hg : (fn.name == "runtime.NumGoroutine") = false) {args : List AV} {us : Array Value} (ha : All2 (VR φ w) args us.toList) {r : AV × Heap} (e : extL fn args h = some r) :
    r.2 = h ∧ ∃ u, (callFunc f us).run P w = .ok (.value u) w ∧ VR φ w r.1 u := by
  unfold extL at e
  split at e
  · rename_i r' he
    cases e
    exact ext_ok H hf hb hg ha he
  · unfold lanesE at e
    simp only [Option.map_eq_some_iff, Option.bind_eq_some_iff] at e
    obtain ⟨v, ⟨rs, hrs, hv⟩, rfl⟩ := e
    obtain ⟨y, k1, k2⟩ := mapO_at hrs Lane.l Lane.l (range_at Lane.lt)
    unfold fstO at k2
    split at k2
    case h_2 => cases k2
    rename_i v0 h0 he
    cases k2
    obtain ⟨_, u, q2, q3⟩ := ext_ok (P := P) H.lane hf hb hg ha.laneV he
    exact ⟨rfl, u, q2, collapse_ok hv k1 q3⟩
end Go.Vai
