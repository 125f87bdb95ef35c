/- SchemaOnce: the text that is drawn is of one kind alone, but that a whole number is a number, too; its tag is that kind's. For every input. -/
import Derived.Test.YtoahbekcegcghaaSchemaOnceBaseT
import Derived.Test.YtoahbekcegcghaaSchemaPlainMore
namespace Go.Proofs.Ytoahbekcegcghaa.Pure
open Go.RowKit Go.Proofs.Ytoahbekcegcghaa.XSchemaOnce Go.Proofs.YtoahbekcegcghaaW.PrintWords Go.Proofs.YtoahbekcegcghaaW.PrintLast Go.Proofs.Ytoahbekcegcghaa.BaseSchemaOnce Go.Proofs.Ytoahbekcegcghaa.SchemaPlain
set_option linter.unusedSimpArgs false
set_option linter.unusedVariables false

theorem once_j (t : ByteArray) (ht : t.size ≤ 1000) : scholiumlaw08_SchemaOnce.j0 1000 t (nullS (B t)) (boolS (B t)) (intS (B t)) (floatS (B t)) false = some true := by
  obtain ⟨x, hx, ex⟩ := Resolve_spec t (by omega) 999 (by omega)
  simp only [scholiumlaw08_SchemaOnce.j0]
  rw [hx]
  simp only [Option.bind_some, B_toList, ex, wakes_spec 999 (by omega), resolveS]
  cases nullS (B t) <;> cases boolS (B t) <;> cases intS (B t) <;> cases floatS (B t) <;> rfl

theorem SchemaOnce : scholiumlaw08_SchemaOnce.Pure := by
  intro a l raw _ _ _ _
  obtain ⟨t, ht, hk⟩ := text_spec a l raw
  refine ⟨1000, ?_⟩
  have hj := once_j t (by omega)
  have h1 := null_other (B t)
  have h2 := bool_other (B t)
  unfold scholiumlaw08_SchemaOnce.f
  rw [hk 1000 (by omega), Option.bind_some, Null_spec t 1000 (by omega), Option.bind_some, Bool_spec t 1000 (by omega), Option.bind_some,
    Int_spec t (by omega), Option.bind_some, Float_spec t (by omega) 1000 (by omega), Option.bind_some]
  generalize nullS (B t) = n at *
  generalize boolS (B t) = b at *
  generalize intS (B t) = i at *
  generalize floatS (B t) = f at *
  cases n <;> cases b <;> cases i <;> cases f <;> simp_all
end Go.Proofs.Ytoahbekcegcghaa.Pure
