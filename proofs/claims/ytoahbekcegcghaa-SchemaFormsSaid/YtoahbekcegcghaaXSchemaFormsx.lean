-- By a program of this session's own over the kit's printer (wip/xprint.py). Not trusted: Lean checks it.
import Derived.Test.YtoahbekcegcghaaXSchemaFormsx0
import Derived.Test.YtoahbekcegcghaaXSchemaFormsx1
import Derived.Test.YtoahbekcegcghaaXSchemaFormsx2
import Derived.Test.YtoahbekcegcghaaXSchemaFormsx3
namespace Go.Proofs.Ytoahbekcegcghaa.XSchemaForms
open Go.RowKit Go.Proofs.YtoahbekcegcghaaW.PrintWords Go.Proofs.YtoahbekcegcghaaW.PrintLast Go.Proofs.YtoahbekcegcghaaW.PrintMore
attribute [local go_sem] max2_int min2_int max_two min_two max_three min_three max_four min_four   -- for this text's walks alone
set_option linter.unusedVariables false
set_option linter.unusedSimpArgs false

end Go.Proofs.Ytoahbekcegcghaa.XSchemaForms
