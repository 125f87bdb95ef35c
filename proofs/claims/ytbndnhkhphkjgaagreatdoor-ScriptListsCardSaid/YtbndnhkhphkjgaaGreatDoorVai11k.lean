/- The abstract machine: kinds of operations. -/
import Derived.Test.YtbndnhkhphkjgaaGreatDoorVai11
namespace Go.Vai
set_option linter.unusedVariables false
set_option linter.unusedSimpArgs false
set_option linter.unusedSectionVars false
variable [Lane]
variable {P : Program} {base : Nat} {φ φ' φ'' : Emb} {h h' h'' : Heap} {w w' w'' : World}
/-! kinds of operations -/
theorem pureO_free {h : Heap} {o : Option AV} {r : ANext} (e : pureO h o = some r) : ∃ v, r = .val v h ∧ ∀ h', pureO h' o = some (.val v h') := by
  unfold pureO at *
  simp only [Option.map_eq_some_iff] at e
  obtain ⟨v, rfl, rfl⟩ := e
  exact ⟨v, rfl, fun _ => rfl⟩
theorem pureO_bind {α : Type} {h : Heap} {x : Option α} {f : α → Option AV} {r : ANext} (e : (x.bind fun a => pureO h (f a)) = some r) :
    ∃ v, r = .val v h ∧ ∀ h', (x.bind fun a => pureO h' (f a)) = some (.val v h') := by
  cases x with
  | none => cases e
  | some a => exact pureO_free e
theorem free_ok0 {ρ : Rho} {o : Oper} {r : ANext} (hk : kindA P o = 0) (e : aop0 P ρ h o = some r) : ∃ v, r = .val v h ∧ ∀ h', aop0 P ρ h' o = some (.val v h') := by
  unfold kindA at hk
  unfold aop0 opA at *
  cases ho : o.op <;> simp only [ho] at hk e ⊢ <;> try (exact absurd hk (by decide))
  case move x => exact pureO_free e
  case assign x => exact pureO_free e
  case pick c a b =>
    unfold oPick pickV at *
    cases hc : ρ c with
    | none => rw [hc] at e; cases e
    | some t =>
      rw [hc] at e
      simp only [Option.bind_some] at *
      split at e
      · exact pureO_free e
      · cases e
  case binOp op t x y u =>
    unfold oBin at *
    cases hx : ρ x with
    | none => rw [hx] at e; cases e
    | some a =>
      rw [hx] at e; simp only [Option.bind_some] at *
      exact pureO_bind e
  case unOp op t x => exact pureO_bind e
  case field t x f => exact pureO_bind e
  case fieldAddr t x f => exact pureO_bind e
  case indexAddr t x i =>
    unfold oIndexAddr at *
    cases hx : ρ x with
    | none => rw [hx] at e; cases e
    | some a =>
      rw [hx] at e; simp only [Option.bind_some] at *
      exact pureO_bind e
  case index t x i =>
    unfold oIndex at *
    cases hx : ρ x with
    | none => rw [hx] at e; cases e
    | some a =>
      rw [hx] at e; simp only [Option.bind_some] at *
      exact pureO_bind e
  case slice t x lo hi mx =>
    unfold oSlice at *
    cases mx with
    | some _ => cases e
    | none =>
      simp only at *
      cases hx : ρ x with
      | none => rw [hx] at e; cases e
      | some a =>
        rw [hx] at e; simp only [Option.bind_some] at *
        cases hl : optO ρ lo with
        | none => rw [hl] at e; cases e
        | some l =>
          rw [hl] at e; simp only [Option.bind_some] at *
          exact pureO_bind e
  case extract x i =>
    unfold oExtract extV at *
    cases hx : ρ x with
    | none => rw [hx] at e; cases e
    | some a =>
      rw [hx] at e; simp only [Option.bind_some] at *
      split at e
      · exact pureO_free e
      · cases e
  case nilCheck x =>
    unfold oNilCheck nilV at *
    cases hx : ρ x with
    | none => rw [hx] at e; cases e
    | some a =>
      rw [hx] at e; simp only [Option.bind_some] at *
      split at e
      · cases e; exact ⟨_, rfl, fun _ => rfl⟩
      · cases e; exact ⟨_, rfl, fun _ => rfl⟩
      · cases e
  case build t ps =>
    unfold oBuild at *
    cases hz : zeroT P t with
    | none => rw [hz] at e; cases e
    | some z =>
      rw [hz] at e; simp only [Option.bind_some] at *
      cases hp : placesT P t with
      | none => rw [hp] at e; cases e
      | some pl =>
        rw [hp] at e; simp only [Option.bind_some] at *
        exact pureO_bind e
  case makeFunc fn first caps =>
    unfold oMakeFunc at *
    split at e
    case h_2 => cases e
    split at e
    case isFalse => cases e
    rename_i hf
    simp only [if_pos hf]
    cases hc : mapO ρ caps.toList with
    | none => rw [hc] at e; cases e
    | some cs => rw [hc] at e; cases e; exact ⟨_, rfl, fun _ => rfl⟩
  case convert s d x =>
    unfold oConvert pairO at *
    cases hx : ρ x with
    | none => rw [hx] at e; cases e
    | some a =>
      rw [hx] at e; simp only [Option.bind_some] at *
      split at hk
      · rename_i k hd
        unfold convertA at *
        by_cases hs : (P.underlying s).isSome = false
        · rw [if_pos hs] at e; cases e
        · simp only [if_neg hs, hd] at *
          cases a <;> simp only [Option.map_some, Option.map_none] at e <;> try (cases e)
          · exact ⟨_, rfl, fun _ => rfl⟩
          · exfalso
            revert e
            split
            · simp
            · simp
      · cases hk
      · cases hk
  case call c =>
    unfold oCall at *
    cases hx : mapO ρ c.args.toList with
    | none => rw [hx] at e; cases e
    | some xs =>
      rw [hx] at e; simp only [Option.bind_some] at *
      cases hc : c.callee with
      | value _ => rw [hc] at hk; cases hk
      | invoke _ _ => rw [hc] at hk; cases hk
      | builtin b =>
        rw [hc] at hk
        simp only [hc] at *
        cases b <;> simp only at hk <;> try (exact absurd hk (by decide))
        all_goals
          unfold builtinA one1 two2 at *
          simp only at *
          split at e
          · first | exact pureO_bind e | exact pureO_free e
          · cases e
theorem read_ok0 {ρ : Rho} {o : Oper} {r : ANext} (hk : kindA P o = 1) (e : aop0 P ρ h o = some r) : ∃ v, r = .val v h := by
  unfold kindA at hk
  unfold aop0 opA at *
  cases ho : o.op <;> simp only [ho] at hk e <;> try (exact absurd hk (by decide))
  case load t x =>
    obtain ⟨v, q, _⟩ := pureO_bind e
    exact ⟨v, q⟩
  case lookup t x i ok =>
    unfold oLookup at e
    split at e
    case h_2 => cases e
    simp only [Option.bind_eq_some_iff] at e
    obtain ⟨m, _, k, _, e⟩ := e
    obtain ⟨v, q, _⟩ := pureO_free e
    exact ⟨v, q⟩
  case convert s d x =>
    unfold oConvert pairO at e
    cases hx : ρ x with
    | none => rw [hx] at e; cases e
    | some a =>
      rw [hx] at e; simp only [Option.bind_some] at e
      split at hk
      · cases hk
      · rename_i hd
        unfold convertA at e
        by_cases hs : (P.underlying s).isSome = false
        · rw [if_pos hs] at e; cases e
        · simp only [if_neg hs, hd] at e
          simp only [Option.map_eq_some_iff] at e
          obtain ⟨⟨v, h'⟩, q, rfl⟩ := e
          split at q
          · cases q
          · cases q; exact ⟨_, rfl⟩
          · cases q
          · split at q
            · split at q
              · split at q
                · cases q; exact ⟨_, rfl⟩
                · split at q
                  · simp only [Option.bind_eq_some_iff, Option.map_eq_some_iff] at q
                    obtain ⟨_, _, _, _, q⟩ := q
                    cases q; exact ⟨_, rfl⟩
                  · cases q
              · cases q
            · cases q
          · cases q
      · cases hk
  case call c =>
    cases hc : c.callee with
    | value _ => rw [hc] at hk; cases hk
    | invoke _ _ => rw [hc] at hk; cases hk
    | builtin b => rw [hc] at hk; cases b <;> cases hk
end Go.Vai
