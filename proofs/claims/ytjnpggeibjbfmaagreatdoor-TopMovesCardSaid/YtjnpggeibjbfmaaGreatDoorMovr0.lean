/- TopMoves: some closed runs, turned by the kernel. -/
import Derived.Test.YtjnpggeibjbfmaaGreatDoorMov1
namespace Go.Proofs.YtjnpggeibjbfmaaGreatDoor.MovF
open Go.Vai
set_option linter.unusedVariables false
set_option maxRecDepth 1000000
theorem rb0 : (rB d20f i20f 2 0 0 false && (rB d20f i21f 2 0 1 false && (rB d21f i20f 2 1 0 false && (rB d21f i21f 2 1 1 false && (rB d20t i20t 2 0 0 true && (rB d20t i21t 2 0 1 true && (rB d21t i20t 2 1 0 true && (rB d21t i21t 2 1 1 true && (rB d30f i30f 3 0 0 false && (rB d30f i31f 3 0 1 false)))))))))) = true := by decide +kernel
theorem rk200f : rB d20f i20f 2 0 0 false = true := and_l rb0
theorem rk201f : rB d20f i21f 2 0 1 false = true := and_l (and_r rb0)
theorem rk210f : rB d21f i20f 2 1 0 false = true := and_l (and_r (and_r rb0))
theorem rk211f : rB d21f i21f 2 1 1 false = true := and_l (and_r (and_r (and_r rb0)))
theorem rk200t : rB d20t i20t 2 0 0 true = true := and_l (and_r (and_r (and_r (and_r rb0))))
theorem rk201t : rB d20t i21t 2 0 1 true = true := and_l (and_r (and_r (and_r (and_r (and_r rb0)))))
theorem rk210t : rB d21t i20t 2 1 0 true = true := and_l (and_r (and_r (and_r (and_r (and_r (and_r rb0))))))
theorem rk211t : rB d21t i21t 2 1 1 true = true := and_l (and_r (and_r (and_r (and_r (and_r (and_r (and_r rb0)))))))
theorem rk300f : rB d30f i30f 3 0 0 false = true := and_l (and_r (and_r (and_r (and_r (and_r (and_r (and_r (and_r rb0))))))))
theorem rk301f : rB d30f i31f 3 0 1 false = true := (and_r (and_r (and_r (and_r (and_r (and_r (and_r (and_r (and_r rb0)))))))))
theorem rb1 : (rB d30f i32f 3 0 2 false && (rB d31f i30f 3 1 0 false && (rB d31f i31f 3 1 1 false && (rB d31f i32f 3 1 2 false && (rB d32f i30f 3 2 0 false && (rB d32f i31f 3 2 1 false && (rB d32f i32f 3 2 2 false))))))) = true := by decide +kernel
theorem rk302f : rB d30f i32f 3 0 2 false = true := and_l rb1
theorem rk310f : rB d31f i30f 3 1 0 false = true := and_l (and_r rb1)
theorem rk311f : rB d31f i31f 3 1 1 false = true := and_l (and_r (and_r rb1))
theorem rk312f : rB d31f i32f 3 1 2 false = true := and_l (and_r (and_r (and_r rb1)))
theorem rk320f : rB d32f i30f 3 2 0 false = true := and_l (and_r (and_r (and_r (and_r rb1))))
theorem rk321f : rB d32f i31f 3 2 1 false = true := and_l (and_r (and_r (and_r (and_r (and_r rb1)))))
theorem rk322f : rB d32f i32f 3 2 2 false = true := (and_r (and_r (and_r (and_r (and_r (and_r rb1))))))
theorem rb2 : (rB d30t i30t 3 0 0 true && (rB d30t i31t 3 0 1 true && (rB d30t i32t 3 0 2 true && (rB d31t i30t 3 1 0 true && (rB d31t i31t 3 1 1 true && (rB d31t i32t 3 1 2 true && (rB d32t i30t 3 2 0 true && (rB d32t i31t 3 2 1 true && (rB d32t i32t 3 2 2 true))))))))) = true := by decide +kernel
theorem rk300t : rB d30t i30t 3 0 0 true = true := and_l rb2
theorem rk301t : rB d30t i31t 3 0 1 true = true := and_l (and_r rb2)
theorem rk302t : rB d30t i32t 3 0 2 true = true := and_l (and_r (and_r rb2))
theorem rk310t : rB d31t i30t 3 1 0 true = true := and_l (and_r (and_r (and_r rb2)))
theorem rk311t : rB d31t i31t 3 1 1 true = true := and_l (and_r (and_r (and_r (and_r rb2))))
theorem rk312t : rB d31t i32t 3 1 2 true = true := and_l (and_r (and_r (and_r (and_r (and_r rb2)))))
theorem rk320t : rB d32t i30t 3 2 0 true = true := and_l (and_r (and_r (and_r (and_r (and_r (and_r rb2))))))
theorem rk321t : rB d32t i31t 3 2 1 true = true := and_l (and_r (and_r (and_r (and_r (and_r (and_r (and_r rb2)))))))
theorem rk322t : rB d32t i32t 3 2 2 true = true := (and_r (and_r (and_r (and_r (and_r (and_r (and_r (and_r rb2))))))))
end Go.Proofs.YtjnpggeibjbfmaaGreatDoor.MovF
