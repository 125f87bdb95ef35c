/- ScriptLong: the law, the table of its edits, and what the machine makes of them. -/
import Derived.Test.YtbndnhkhphkjgaaGreatDoorChecked
import Derived.Test.YtbndnhkhphkjgaaGreatDoorVaiR
import Derived.Test.YtbndnhkhphkjgaaGreatDoorWins
import Derived.KernelRfl
namespace Go.Proofs.YtbndnhkhphkjgaaGreatDoor.SlongF
open Go.Vai
set_option linter.unusedVariables false
set_option maxRecDepth 1000000
noncomputable abbrev P : Program := Tryz.prog
noncomputable def lb : Code := bodyOf P 7
def tx (l : List Nat) : List AV := l.map fun n => .int .u8 (.ofNat n)
def hk0 : HookT := noHook
noncomputable abbrev cl0 : CallT := callF P glN 100000 hk0 80
def en0 : Ent := ⟨tx [97, 58, 32, 122], [.agg [.int .i64 1, .str [46, 97], .str [], .str [120], .int .i64 0]], tx [97, 58, 32, 120], 0⟩
def en1 : Ent := ⟨tx [97, 58, 32, 120], [.agg [.int .i64 1, .str [46, 97], .str [], .str [121], .int .i64 0]], tx [97, 58, 32, 121], 0⟩
def en2 : Ent := ⟨tx [97, 58, 32, 121], [.agg [.int .i64 1, .str [46, 97], .str [], .str [120], .int .i64 0]], tx [97, 58, 32, 120], 0⟩
def en3 : Ent := ⟨tx [97, 58, 32, 49], [.agg [.int .i64 1, .str [46, 97], .str [], .str [50], .int .i64 0]], tx [97, 58, 32, 50], 0⟩
def es : List Ent := [en0, en1, en2, en3]
def wl (j : Nat) : List (Nat × Nat × AV) := [(0, 3, .int .i64 (.ofNat j))]
def hk (j : Nat) : HookT := hk2 (hkF 17 (tabA es)) (hkF 9 (winF (wl j)))
noncomputable abbrev cl (j : Nat) : CallT := callF P glN 100000 (hk j) 80
end Go.Proofs.YtbndnhkhphkjgaaGreatDoor.SlongF
