/- ScriptOrder: the texts may be texts; what plain scalars are. -/
import Derived.Test.YtjnpggeibjbfmaaGreatDoorOrd1
namespace Go.Proofs.YtjnpggeibjbfmaaGreatDoor.OrdF
open Go.Vai
set_option linter.unusedVariables false
set_option maxRecDepth 1000000
theorem kb0 : (entI clB 22 ck0 && (entI clB 22 ck1 && (entI clB 22 ck2 && (entI clB 22 ck3 && (entI clB 22 ck4 && (entI clB 22 ck5 && (entI clB 22 ck6 && (entI clB 22 ck7)))))))) = true := by decide +kernel
theorem c0 : entI clB 22 ck0 = true := and_l kb0
theorem c1 : entI clB 22 ck1 = true := and_l (and_r kb0)
theorem c2 : entI clB 22 ck2 = true := and_l (and_r (and_r kb0))
theorem c3 : entI clB 22 ck3 = true := and_l (and_r (and_r (and_r kb0)))
theorem c4 : entI clB 22 ck4 = true := and_l (and_r (and_r (and_r (and_r kb0))))
theorem c5 : entI clB 22 ck5 = true := and_l (and_r (and_r (and_r (and_r (and_r kb0)))))
theorem c6 : entI clB 22 ck6 = true := and_l (and_r (and_r (and_r (and_r (and_r (and_r kb0))))))
theorem c7 : entI clB 22 ck7 = true := (and_r (and_r (and_r (and_r (and_r (and_r (and_r kb0)))))))
theorem kb1 : (entI clB 22 ck8 && (entI clB 22 ck9 && (entI clB 22 ck10 && (entI clB 22 ck11 && (entI clB 22 ck12 && (entI clB 22 ck13 && (entI clB 22 ck14 && (entI clB 22 ck15)))))))) = true := by decide +kernel
theorem c8 : entI clB 22 ck8 = true := and_l kb1
theorem c9 : entI clB 22 ck9 = true := and_l (and_r kb1)
theorem c10 : entI clB 22 ck10 = true := and_l (and_r (and_r kb1))
theorem c11 : entI clB 22 ck11 = true := and_l (and_r (and_r (and_r kb1)))
theorem c12 : entI clB 22 ck12 = true := and_l (and_r (and_r (and_r (and_r kb1))))
theorem c13 : entI clB 22 ck13 = true := and_l (and_r (and_r (and_r (and_r (and_r kb1)))))
theorem c14 : entI clB 22 ck14 = true := and_l (and_r (and_r (and_r (and_r (and_r (and_r kb1))))))
theorem c15 : entI clB 22 ck15 = true := (and_r (and_r (and_r (and_r (and_r (and_r (and_r kb1)))))))
theorem kb2 : (entI clB 22 ck16 && (entI clB 22 ck17 && (entI clB 22 ck18 && (entI clB 22 ck19 && (entI clB 22 ck20 && (entI clB 22 ck21 && (entI clB 22 ck22 && (entI clB 22 ck23)))))))) = true := by decide +kernel
theorem c16 : entI clB 22 ck16 = true := and_l kb2
theorem c17 : entI clB 22 ck17 = true := and_l (and_r kb2)
theorem c18 : entI clB 22 ck18 = true := and_l (and_r (and_r kb2))
theorem c19 : entI clB 22 ck19 = true := and_l (and_r (and_r (and_r kb2)))
theorem c20 : entI clB 22 ck20 = true := and_l (and_r (and_r (and_r (and_r kb2))))
theorem c21 : entI clB 22 ck21 = true := and_l (and_r (and_r (and_r (and_r (and_r kb2)))))
theorem c22 : entI clB 22 ck22 = true := and_l (and_r (and_r (and_r (and_r (and_r (and_r kb2))))))
theorem c23 : entI clB 22 ck23 = true := (and_r (and_r (and_r (and_r (and_r (and_r (and_r kb2)))))))
theorem kb3 : (entI clB 22 ck24 && (entI clB 22 ck25)) = true := by decide +kernel
theorem c24 : entI clB 22 ck24 = true := and_l kb3
theorem c25 : entI clB 22 ck25 = true := (and_r kb3)
theorem rss_ok : (rss.all fun en => entSB clB 171 en) = true := by decide +kernel
end Go.Proofs.YtjnpggeibjbfmaaGreatDoor.OrdF
