/- The abstract machine: regions that draw their order. -/
import Derived.Test.YtbndnhkhphkjgaaGreatDoorVai13
namespace Go.Vai
set_option linter.unusedVariables false
set_option linter.unusedSimpArgs false
set_option linter.unusedSectionVars false
variable [Lane]
variable {P : Program} {base : Nat} {φ φ' φ'' : Emb} {h h' h'' : Heap} {w w' w'' : World}

end Go.Vai
