/- SchemaTells: whatever the text that is drawn, the program and the reference say the same of it: null, bool, whole number, number, and its tag. For every input. -/
import Derived.Test.YtoahbekcegcghaaSchemaTellsBaseT
import Derived.Test.YtoahbekcegcghaaSchemaTellsBaseR
namespace Go.Proofs.Ytoahbekcegcghaa.Pure
open Go.RowKit Go.Proofs.Ytoahbekcegcghaa.XSchemaTells Go.Proofs.YtoahbekcegcghaaW.PrintWords Go.Proofs.YtoahbekcegcghaaW.PrintLast Go.Proofs.Ytoahbekcegcghaa.BaseSchemaTells

theorem SchemaTells : scholiumlaw08_SchemaTells.Pure := by
  intro a l raw _ _ _ _
  obtain ⟨t, ht, hk⟩ := text_spec a l raw
  refine ⟨1000, ?_⟩
  obtain ⟨x, hx, ex⟩ := Resolve_spec t (by omega) 1000 (by omega)
  obtain ⟨y, hy, ey⟩ := rResolve_spec t (by omega) 1000 (by omega)
  unfold scholiumlaw08_SchemaTells.f
  rw [hk 1000 (by omega), Option.bind_some, Null_spec t 1000 (by omega), Option.bind_some, rNull_spec t 1000 (by omega), Option.bind_some, if_pos (by simp),
    Bool_spec t 1000 (by omega), Option.bind_some, rBool_spec t 1000 (by omega), Option.bind_some, if_pos (by simp),
    Int_spec t (by omega), Option.bind_some, rInt_spec t (by omega) 1000 (by omega), Option.bind_some, if_pos (by simp),
    Float_spec t (by omega) 1000 (by omega), Option.bind_some, rFloat_spec t (by omega) 1000 (by omega), Option.bind_some, if_pos (by simp),
    hx, Option.bind_some, hy, Option.bind_some, B_toList, B_toList, ex, ey, if_pos rfl, wakes_spec 1000 (by omega)]
  rfl
end Go.Proofs.Ytoahbekcegcghaa.Pure
