/- ScriptOrder: the law's runs, turned by the kernel. -/
import Derived.Test.YtjnpggeibjbfmaaGreatDoorOrd1
namespace Go.Proofs.YtjnpggeibjbfmaaGreatDoor.OrdF
open Go.Vai
set_option linter.unusedVariables false
set_option maxRecDepth 1000000
theorem rb0 : (rB (.slice none 0 0 0) 0 0 0 && (rB (.lslice ⟨0, 0, 0, 0⟩ 0 8 true) 0 0 0 && (rB (.lslice ⟨0, 0, 0, 1⟩ 1 8 true) 1 1 0 && (rB (.lslice ⟨0, 0, 0, 1⟩ 1 8 true) 1 1 1 && (rB (.lslice ⟨0, 0, 0, 2⟩ 2 8 true) 2 2 0))))) = true := by decide +kernel
theorem rn : rB (.slice none 0 0 0) 0 0 0 = true := and_l rb0
theorem rx00 : rB (.lslice ⟨0, 0, 0, 0⟩ 0 8 true) 0 0 0 = true := and_l (and_r rb0)
theorem rx10 : rB (.lslice ⟨0, 0, 0, 1⟩ 1 8 true) 1 1 0 = true := and_l (and_r (and_r rb0))
theorem rx11 : rB (.lslice ⟨0, 0, 0, 1⟩ 1 8 true) 1 1 1 = true := and_l (and_r (and_r (and_r rb0)))
theorem rx20 : rB (.lslice ⟨0, 0, 0, 2⟩ 2 8 true) 2 2 0 = true := (and_r (and_r (and_r (and_r rb0))))
theorem rb1 : (rB (.lslice ⟨0, 0, 0, 2⟩ 2 8 true) 2 2 1 && (rB (.lslice ⟨0, 0, 0, 2⟩ 2 8 true) 2 2 2 && (rB (.lslice ⟨0, 0, 0, 3⟩ 3 8 true) 3 3 0 && (rB (.lslice ⟨0, 0, 0, 3⟩ 3 8 true) 3 3 1 && (rB (.lslice ⟨0, 0, 0, 3⟩ 3 8 true) 3 3 2))))) = true := by decide +kernel
theorem rx21 : rB (.lslice ⟨0, 0, 0, 2⟩ 2 8 true) 2 2 1 = true := and_l rb1
theorem rx22 : rB (.lslice ⟨0, 0, 0, 2⟩ 2 8 true) 2 2 2 = true := and_l (and_r rb1)
theorem rx30 : rB (.lslice ⟨0, 0, 0, 3⟩ 3 8 true) 3 3 0 = true := and_l (and_r (and_r rb1))
theorem rx31 : rB (.lslice ⟨0, 0, 0, 3⟩ 3 8 true) 3 3 1 = true := and_l (and_r (and_r (and_r rb1)))
theorem rx32 : rB (.lslice ⟨0, 0, 0, 3⟩ 3 8 true) 3 3 2 = true := (and_r (and_r (and_r (and_r rb1))))
theorem rb2 : (rB (.lslice ⟨0, 0, 0, 3⟩ 3 8 true) 3 3 3 && (rB (.lslice ⟨0, 0, 0, 4⟩ 4 8 true) 4 4 0 && (rB (.lslice ⟨0, 0, 0, 4⟩ 4 8 true) 4 4 1 && (rB (.lslice ⟨0, 0, 0, 4⟩ 4 8 true) 4 4 2 && (rB (.lslice ⟨0, 0, 0, 4⟩ 4 8 true) 4 4 3))))) = true := by decide +kernel
theorem rx33 : rB (.lslice ⟨0, 0, 0, 3⟩ 3 8 true) 3 3 3 = true := and_l rb2
theorem rx40 : rB (.lslice ⟨0, 0, 0, 4⟩ 4 8 true) 4 4 0 = true := and_l (and_r rb2)
theorem rx41 : rB (.lslice ⟨0, 0, 0, 4⟩ 4 8 true) 4 4 1 = true := and_l (and_r (and_r rb2))
theorem rx42 : rB (.lslice ⟨0, 0, 0, 4⟩ 4 8 true) 4 4 2 = true := and_l (and_r (and_r (and_r rb2)))
theorem rx43 : rB (.lslice ⟨0, 0, 0, 4⟩ 4 8 true) 4 4 3 = true := (and_r (and_r (and_r (and_r rb2))))
end Go.Proofs.YtjnpggeibjbfmaaGreatDoor.OrdF
