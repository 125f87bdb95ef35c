/- FindForms: what stands behind the loop. -/
import Derived.Test.YtjfigncgpldcpaaGreatDoorFF1
namespace Go.Proofs.YtjfigncgpldcpaaGreatDoor.FF
open Go.Vai
set_option maxRecDepth 1000000
noncomputable def stL (st : St) : Option St :=
  match putA 66 st.fr (some 27) (.tup [.bool false]) with
  | none => none
  | some fr1 => bnd ((opsB P gl 66 ops4 (ops4.toList.drop 1)).f cl fr1 st.h) fun s1 => match (codeB P gl 100000 66 c4).f cl s1.fr s1.h with
    | some (.exit 0, s2) => some s2
    | _ => none
noncomputable def lastR (o : Option St) : Bool :=
  match o with
  | none => false
  | some st => (match stL st with
    | none => false
    | some s2 => (match (codeB P gl 100000 66 c5).f cl s2.fr s2.h with
      | some (.ret, s3) => (match s3.fr.get 2 with | some (.bool true) => true | _ => false)
      | _ => false))
noncomputable def lastB : Bool := lastR stA
theorem last_true : lastB = true := by decide +kernel
end Go.Proofs.YtjfigncgpldcpaaGreatDoor.FF
