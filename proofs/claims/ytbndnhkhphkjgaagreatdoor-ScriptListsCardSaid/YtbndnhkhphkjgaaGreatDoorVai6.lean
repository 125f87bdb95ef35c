/- The abstract machine: operations that only compute. -/
import Derived.Test.YtbndnhkhphkjgaaGreatDoorVai5
import Derived.Lib.Strings
namespace Go.Vai
set_option linter.unusedVariables false
set_option linter.unusedSimpArgs false
set_option linter.unusedSectionVars false
variable [Lane]
variable {P : Program} {base : Nat} {φ φ' φ'' : Emb} {h h' h'' : Heap} {w w' w'' : World}

theorem int2_some {f : IntKind → Int → Int → Option AV} {x y v : AV} (e : int2 f x y = some v) : ∃ k a b, x = .int k a ∧ y = .int k b ∧ f k a b = some v := by
  unfold int2 at e
  split at e
  · rename_i k a
    split at e
    · rename_i k' b
      split at e
      · rename_i hk; subst hk; exact ⟨k, a, b, rfl, rfl, e⟩
      · cases e
    · cases e
  · cases e
/-- of two integers of one kind the operator does what it does on numbers -/
theorem bin_int (op : BinOp) (t : TypeId) (f : IntKind → Int → Int → Option AV) (ho : ∀ k a b v, f k a b = some v → ∃ u, (Go.binOp op t (.int k a) (.int k b)).run P w = .ok u w ∧ VR φ w v u)
    {x y v : AV} {xv yv : Value} (hx : VR φ w x xv) (hy : VR φ w y yv) (e : int2 f x y = some v) : ∃ u, (Go.binOp op t xv yv).run P w = .ok u w ∧ VR φ w v u := by
  obtain ⟨k, a, b, rfl, rfl, e'⟩ := int2_some e
  cases hx
  cases hy
  exact ho k a b v e'
theorem toList_mk (l : List UInt8) : (⟨⟨l⟩⟩ : ByteArray).toList = l := Lib.toList_data _
theorem append_mk (a b : List UInt8) : (⟨⟨a⟩⟩ : ByteArray) ++ ⟨⟨b⟩⟩ = ⟨⟨a ++ b⟩⟩ := by
  apply ByteArray.ext
  apply Array.ext'
  simp
theorem size_mk (l : List UInt8) : (⟨⟨l⟩⟩ : ByteArray).size = l.length := rfl
theorem notGreat (n : Nat) (hn : n ≤ 1099511627776) : ¬ ((n : Nat) : Int) > IntKind.i64.max := by
  have : IntKind.i64.max = 9223372036854775807 := rfl
  omega
theorem eqA_ok {t : TypeId} {x y : AV} {b : Bool} {xv yv : Value} (hx : VR φ w x xv) (hy : VR φ w y yv) (e : eqA P t x y = some b) : (Op.equal t xv yv).run P w = .ok b w := by
  unfold eqA at e
  unfold Op.equal Op.maxDepth
  rw [Op.equalIn]
  split at e
  all_goals (first | cases e)
  · rename_i hu
    cases hx; cases hy
    simp only [Sem.run_bind, run_underlying hu, Result.andThen_ok]; rfl
  · rename_i hu
    cases hy
    cases hx <;> (simp only [Sem.run_bind, run_underlying hu, Result.andThen_ok]; rfl)
  · rename_i hu
    cases hx
    cases hy <;> (simp only [Sem.run_bind, run_underlying hu, Result.andThen_ok]; rfl)
  · rename_i hu
    cases hx
    cases hy <;> (simp only [Sem.run_bind, run_underlying hu, Result.andThen_ok]; rfl)
  · rename_i hu
    cases hy
    cases hx <;> (simp only [Sem.run_bind, run_underlying hu, Result.andThen_ok]; rfl)
  · rename_i hu
    cases hx; cases hy
    simp only [Sem.run_bind, run_underlying hu, Result.andThen_ok]; rfl
theorem eqT_ok {t : TypeId} {x y : AV} {b : Bool} {xv yv : Value} (hx : VR φ w x xv) (hy : VR φ w y yv) (e : eqA P t x y = some b) :
    (Go.binOp .eql t xv yv).run P w = .ok (.bool b) w ∧ (Go.binOp .neq t xv yv).run P w = .ok (.bool (!b)) w := by
  have h1 := eqA_ok (P := P) hx hy e
  have hs : (∃ b c, x = .bool b ∧ y = .bool c) ∨ (∃ a n r s a' n' r' s', x = .slice a n r s ∧ y = .slice a' n' r' s') ∨ (∃ a a', x = .ptr a ∧ y = .ptr a') ∨ (x = .nilI ∧ y = .nilI) := by
    unfold eqA at e
    split at e
    · exact .inl ⟨_, _, rfl, rfl⟩
    · exact .inr (.inl ⟨_, _, _, _, _, _, _, _, rfl, rfl⟩)
    · exact .inr (.inl ⟨_, _, _, _, _, _, _, _, rfl, rfl⟩)
    · exact .inr (.inr (.inl ⟨_, _, rfl, rfl⟩))
    · exact .inr (.inr (.inl ⟨_, _, rfl, rfl⟩))
    · exact .inr (.inr (.inr ⟨rfl, rfl⟩))
    · cases e
  rcases hs with ⟨b0, c0, rfl, rfl⟩ | ⟨a, n, r, s, a', n', r', s', rfl, rfl⟩ | ⟨a, a', rfl, rfl⟩ | ⟨rfl, rfl⟩
  · cases hx; cases hy
    constructor <;> (simp only [Go.binOp, Sem.run_bind, h1, Result.andThen_ok]; rfl)
  · cases hx <;> cases hy <;> (constructor <;> (simp only [Go.binOp, Sem.run_bind, h1, Result.andThen_ok]; rfl))
  · cases hx <;> cases hy <;> (constructor <;> (simp only [Go.binOp, Sem.run_bind, h1, Result.andThen_ok]; rfl))
  · cases hx; cases hy
    constructor <;> (simp only [Go.binOp, Sem.run_bind, h1, Result.andThen_ok]; rfl)
theorem binT_ok {op : BinOp} {t : TypeId} {x y v : AV} {xv yv : Value} (hx : VR φ w x xv) (hy : VR φ w y yv) (e : binT P op t x y = some v) :
    ∃ u, (Go.binOp op t xv yv).run P w = .ok u w ∧ VR φ w v u := by
  have I := fun f ho => bin_int (P := P) (w := w) (φ := φ) op t f ho hx hy (v := v)
  unfold binT at e
  split at e
  · unfold addA at e
    split at e
    · split at e
      · split at e
        · rename_i a b hl
          cases e; cases hx; cases hy
          refine ⟨_, ?_, .str _⟩
          have := notGreat _ hl
          simp only [Go.binOp, Op.stringOp, size_mk, this, if_false, append_mk]; rfl
        · cases e
      · cases e
    · exact I _ (fun k a b v e => by cases e; exact ⟨_, by simp [Go.binOp, Op.intArith], .int _ _⟩) e
  · exact I _ (fun k a b v e => by cases e; exact ⟨_, by simp [Go.binOp, Op.intArith], .int _ _⟩) e
  · exact I _ (fun k a b v e => by cases e; exact ⟨_, by simp [Go.binOp, Op.intArith], .int _ _⟩) e
  · refine I _ (fun k a b v e => ?_) e
    unfold quoI at e
    split at e
    · rename_i hb; cases e; exact ⟨_, by simp [Go.binOp, Op.intDiv, hb], .int _ _⟩
    · cases e
  · refine I _ (fun k a b v e => ?_) e
    unfold remI at e
    split at e
    · rename_i hb; cases e; exact ⟨_, by simp [Go.binOp, Op.intDiv, hb], .int _ _⟩
    · cases e
  · unfold eqlA at e
    split at e
    · exact I _ (fun k a b v e => by cases e; exact ⟨_, by simp [Go.binOp, Op.intCmp], .bool _⟩) e
    · split at e
      · cases e; cases hx; cases hy
        exact ⟨_, by simp only [Go.binOp, Op.stringOp, toList_mk]; rfl, .bool _⟩
      · cases e
    · simp only [Option.map_eq_some_iff] at e
      obtain ⟨b, e, rfl⟩ := e
      exact ⟨.bool b, (eqT_ok hx hy e).1, .bool _⟩
  · unfold neqA at e
    split at e
    · exact I _ (fun k a b v e => by cases e; exact ⟨_, by simp [Go.binOp, Op.intCmp], .bool _⟩) e
    · split at e
      · cases e; cases hx; cases hy
        exact ⟨_, by simp only [Go.binOp, Op.stringOp, toList_mk]; rfl, .bool _⟩
      · cases e
    · simp only [Option.map_eq_some_iff] at e
      obtain ⟨b, e, rfl⟩ := e
      exact ⟨.bool (!b), (eqT_ok hx hy e).2, .bool _⟩
  · exact I _ (fun k a b v e => by cases e; exact ⟨_, by simp [Go.binOp, Op.intCmp], .bool _⟩) e
  · exact I _ (fun k a b v e => by cases e; exact ⟨_, by simp [Go.binOp, Op.intCmp], .bool _⟩) e
  · exact I _ (fun k a b v e => by cases e; exact ⟨_, by simp [Go.binOp, Op.intCmp], .bool _⟩) e
  · exact I _ (fun k a b v e => by cases e; exact ⟨_, by simp [Go.binOp, Op.intCmp], .bool _⟩) e
  · cases e
end Go.Vai
