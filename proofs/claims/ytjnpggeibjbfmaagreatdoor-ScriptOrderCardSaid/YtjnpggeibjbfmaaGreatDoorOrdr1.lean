/- ScriptOrder: the law's runs, turned by the kernel. -/
import Derived.Test.YtjnpggeibjbfmaaGreatDoorOrd1
namespace Go.Proofs.YtjnpggeibjbfmaaGreatDoor.OrdF
open Go.Vai
set_option linter.unusedVariables false
set_option maxRecDepth 1000000
theorem rb3 : (rB (.lslice ⟨0, 0, 0, 4⟩ 4 8 true) 4 4 4 && (rB (.lslice ⟨0, 0, 0, 5⟩ 5 8 true) 5 5 0 && (rB (.lslice ⟨0, 0, 0, 5⟩ 5 8 true) 5 5 1 && (rB (.lslice ⟨0, 0, 0, 5⟩ 5 8 true) 5 5 2 && (rB (.lslice ⟨0, 0, 0, 5⟩ 5 8 true) 5 5 3))))) = true := by decide +kernel
theorem rx44 : rB (.lslice ⟨0, 0, 0, 4⟩ 4 8 true) 4 4 4 = true := and_l rb3
theorem rx50 : rB (.lslice ⟨0, 0, 0, 5⟩ 5 8 true) 5 5 0 = true := and_l (and_r rb3)
theorem rx51 : rB (.lslice ⟨0, 0, 0, 5⟩ 5 8 true) 5 5 1 = true := and_l (and_r (and_r rb3))
theorem rx52 : rB (.lslice ⟨0, 0, 0, 5⟩ 5 8 true) 5 5 2 = true := and_l (and_r (and_r (and_r rb3)))
theorem rx53 : rB (.lslice ⟨0, 0, 0, 5⟩ 5 8 true) 5 5 3 = true := (and_r (and_r (and_r (and_r rb3))))
theorem rb4 : (rB (.lslice ⟨0, 0, 0, 5⟩ 5 8 true) 5 5 4 && (rB (.lslice ⟨0, 0, 0, 5⟩ 5 8 true) 5 5 5 && (rB (.lslice ⟨0, 0, 0, 6⟩ 6 8 false) 6 5 0 && (rB (.lslice ⟨0, 0, 0, 6⟩ 6 8 false) 6 5 1 && (rB (.lslice ⟨0, 0, 0, 6⟩ 6 8 false) 6 5 2))))) = true := by decide +kernel
theorem rx54 : rB (.lslice ⟨0, 0, 0, 5⟩ 5 8 true) 5 5 4 = true := and_l rb4
theorem rx55 : rB (.lslice ⟨0, 0, 0, 5⟩ 5 8 true) 5 5 5 = true := and_l (and_r rb4)
theorem rg0 : rB (.lslice ⟨0, 0, 0, 6⟩ 6 8 false) 6 5 0 = true := and_l (and_r (and_r rb4))
theorem rg1 : rB (.lslice ⟨0, 0, 0, 6⟩ 6 8 false) 6 5 1 = true := and_l (and_r (and_r (and_r rb4)))
theorem rg2 : rB (.lslice ⟨0, 0, 0, 6⟩ 6 8 false) 6 5 2 = true := (and_r (and_r (and_r (and_r rb4))))
theorem rb5 : (rB (.lslice ⟨0, 0, 0, 6⟩ 6 8 false) 6 5 3 && (rB (.lslice ⟨0, 0, 0, 6⟩ 6 8 false) 6 5 4 && (rB (.lslice ⟨0, 0, 0, 6⟩ 6 8 false) 6 5 5))) = true := by decide +kernel
theorem rg3 : rB (.lslice ⟨0, 0, 0, 6⟩ 6 8 false) 6 5 3 = true := and_l rb5
theorem rg4 : rB (.lslice ⟨0, 0, 0, 6⟩ 6 8 false) 6 5 4 = true := and_l (and_r rb5)
theorem rg5 : rB (.lslice ⟨0, 0, 0, 6⟩ 6 8 false) 6 5 5 = true := (and_r (and_r rb5))
end Go.Proofs.YtjnpggeibjbfmaaGreatDoor.OrdF
