-- By a program of this session's own over the kit's printer (wip/xprint.py). Not trusted: Lean checks it.
import Derived.Test.YtoahbekcegcghaaProg
import Derived.Below
import Derived.Deep.Draws
import Derived.Deep.AppendLies
import Derived.Maps.AppendAt
import Derived.OwnWalk
import Derived.Laws.BytesArg
import Derived.Laws.MakeOwn
import Derived.Laws.OwnMore
import Derived.Deep.OwnRows
import Derived.Tactics
import Derived.Lib.ConvBytes
import Derived.Laws.Slices
import Derived.WalkKit
import Derived.KernelRfl
import Derived.RowKit3
import Derived.Deep.LoopGhost
import Derived.Deep.QuietTactic
import Derived.BigQuiet
import Derived.WideLaws
import Derived.Deep.DeepCutAuto
import Derived.Deep.CutBlock
import Derived.Deep.RegionHeld3
import Derived.Laws.Rows
import Derived.Lib.AppendStr
import Derived.ArgAppend
import Derived.Laws.IdiomCopy
import Derived.OrdersHeld
import Derived.Laws.BitsLemmas
import Derived.RowKit
import Derived.Lib.OthersKept
import Derived.Lib.Hide
import Derived.Test.YtoahbekcegcghaaWWords
import Derived.Test.YtoahbekcegcghaaWLast
import Derived.Test.YtoahbekcegcghaaWTab
import Derived.Test.YtoahbekcegcghaaWFour
import Derived.Test.YtoahbekcegcghaaWQPut
import Derived.Test.YtoahbekcegcghaaWApart
import Derived.Test.YtoahbekcegcghaaWArr
import Derived.Test.YtoahbekcegcghaaWZeros
import Derived.Test.YtoahbekcegcghaaWFoot
import Derived.Test.YtoahbekcegcghaaWKept
import Derived.Test.YtoahbekcegcghaaWShare
import Derived.Test.YtoahbekcegcghaaWN
import Derived.Test.YtoahbekcegcghaaWFootNe
import Derived.Test.YtoahbekcegcghaaWAt
import Derived.Test.YtoahbekcegcghaaWEqStruct
import Derived.Test.YtoahbekcegcghaaWRepsOne
import Derived.Test.YtoahbekcegcghaaWInv
import Derived.Test.YtoahbekcegcghaaWInvWords
import Derived.Test.YtoahbekcegcghaaWGuard
import Derived.Test.YtoahbekcegcghaaWNEv
import Derived.Test.YtoahbekcegcghaaWMore
namespace Go.Proofs.Ytoahbekcegcghaa.XSchemaForms
open Go.RowKit Go.Proofs.YtoahbekcegcghaaW.PrintWords Go.Proofs.YtoahbekcegcghaaW.PrintLast Go.Proofs.YtoahbekcegcghaaW.PrintMore
attribute [local go_sem] max2_int min2_int max_two min_two max_three min_three max_four min_four   -- for this text's walks alone
set_option linter.unusedVariables false
set_option linter.unusedSimpArgs false



def errW : Option Int → Value
  | none => .nilIface
  | some c => .iface 0 (.int .i64 c)
theorem errW_none : errW none = .nilIface := rfl
theorem errW_some (c : Int) : errW (some c) = .iface 0 (.int .i64 c) := rfl

theorem info9 : (Try.prog.info? 9).map (fun i => (i.zero, i.size, i.bytes)) = some (some (.string ⟨#[]⟩), 1, 16) := by kernel_rfl
-- the values' own types

end Go.Proofs.Ytoahbekcegcghaa.XSchemaForms
