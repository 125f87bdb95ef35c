/-
  No cell of these rows narrows 'for every input' (looked for: loops, veiled, ifaces, maps, wideKeys, modest, calm, conditions, laid).
  DERIVED. THE GIVEN ROWS OF THIS SEAT. 7 by the template 'for every input the law returns true; each argument reads behind the call as it read before'; 0 by the template 'total and deterministic' (their statements: YtoahbekcegcghaaTotals.lean).
  GIVEN WITH THE SEED: the statements are not yours to turn. If you find one false, say at which input.
  Laid BY PROGRAM, IN A SANDBOX (cutbox-rows.mjs): the forced cells as the released guide's own fill.sh prints them over the translation f891624f7fd18983… (all of the seat's roots in one cut). By AI agents, Wed Nov 11 2026. No macro, syntax, notation, axiom, sorry.
-/
import Derived.Test.YtoahbekcegcghaaChecked
import GoSem.Claim
import GoSem.ClaimJoined
import GoSem.ClaimMapViews
import Derived.JoinedTies
import Derived.KernelRfl
namespace Go.Proofs.Ytoahbekcegcghaa
/- THE CELL 'sum', in the pinned program and in every row, IS THE sha256 OF THE DUMP (.gsa) THAT YtoahbekcegcghaaProg.lean LOADS. Nothing in Lean hashes anything: it is a label: what it is worth is what the hold of that sum in a sandbox is worth. -/
noncomputable def Try.pinned : Pinned := { name := "ytoahbekcegcghaa", sum := "f891624f7fd18983f6ef24a046e8fd88dc965c44bbaccaf7ecd38d0698dbd319", checked := Try.checked }
namespace Rows
def none {H : Type} : Left H := { results := [], args := [] }

/-- 'scholiumlaw08.SchemaNumbers': WHATEVER THE INPUT: true; the input reads as it did. -/
def schemaNumbersSpec : ChangeSpec := { name := "schemaNumbers", fn := fun _ => fun
  | [d1, d2, d3, d4] => { results := [.lit (.bool true)], args := [d1, d2, d3, d4] }
  | _ => none }
def schemaNumbersRow : OpenClaim := { program := "ytoahbekcegcghaa", sum := "f891624f7fd18983f6ef24a046e8fd88dc965c44bbaccaf7ecd38d0698dbd319", func := "scholium/scholiumlaw08.SchemaNumbers", spec := "schemaNumbers", apart := false }
def SchemaNumbersSaid : Prop := schemaNumbersRow.holds Try.pinned (OpenSpec.ofChange schemaNumbersSpec)

/-- ITS FALSE NEIGHBOUR: 'it returns false'. Refute it at one input. -/
def schemaNumbersWrong : ChangeSpec := { name := "schemaNumbers", fn := fun _ => fun
  | [d1, d2, d3, d4] => { results := [.lit (.bool false)], args := [d1, d2, d3, d4] }
  | _ => none }
def SchemaNumbersWrongFalsely : Prop := schemaNumbersRow.holds Try.pinned (OpenSpec.ofChange schemaNumbersWrong)

/-- 'scholiumlaw08.SchemaOnce': WHATEVER THE INPUT: true; the input reads as it did. -/
def schemaOnceSpec : ChangeSpec := { name := "schemaOnce", fn := fun _ => fun
  | [d1, d2, d3] => { results := [.lit (.bool true)], args := [d1, d2, d3] }
  | _ => none }
def schemaOnceRow : OpenClaim := { program := "ytoahbekcegcghaa", sum := "f891624f7fd18983f6ef24a046e8fd88dc965c44bbaccaf7ecd38d0698dbd319", func := "scholium/scholiumlaw08.SchemaOnce", spec := "schemaOnce", apart := false }
def SchemaOnceSaid : Prop := schemaOnceRow.holds Try.pinned (OpenSpec.ofChange schemaOnceSpec)

/-- ITS FALSE NEIGHBOUR: 'it returns false'. Refute it at one input. -/
def schemaOnceWrong : ChangeSpec := { name := "schemaOnce", fn := fun _ => fun
  | [d1, d2, d3] => { results := [.lit (.bool false)], args := [d1, d2, d3] }
  | _ => none }
def SchemaOnceWrongFalsely : Prop := schemaOnceRow.holds Try.pinned (OpenSpec.ofChange schemaOnceWrong)

/-- 'scholiumlaw08.SchemaTells': WHATEVER THE INPUT: true; the input reads as it did. -/
def schemaTellsSpec : ChangeSpec := { name := "schemaTells", fn := fun _ => fun
  | [d1, d2, d3] => { results := [.lit (.bool true)], args := [d1, d2, d3] }
  | _ => none }
def schemaTellsRow : OpenClaim := { program := "ytoahbekcegcghaa", sum := "f891624f7fd18983f6ef24a046e8fd88dc965c44bbaccaf7ecd38d0698dbd319", func := "scholium/scholiumlaw08.SchemaTells", spec := "schemaTells", apart := false }
def SchemaTellsSaid : Prop := schemaTellsRow.holds Try.pinned (OpenSpec.ofChange schemaTellsSpec)

/-- ITS FALSE NEIGHBOUR: 'it returns false'. Refute it at one input. -/
def schemaTellsWrong : ChangeSpec := { name := "schemaTells", fn := fun _ => fun
  | [d1, d2, d3] => { results := [.lit (.bool false)], args := [d1, d2, d3] }
  | _ => none }
def SchemaTellsWrongFalsely : Prop := schemaTellsRow.holds Try.pinned (OpenSpec.ofChange schemaTellsWrong)

/-- 'scholiumlaw08.SchemaSigns': WHATEVER THE INPUT: true; the input reads as it did. -/
def schemaSignsSpec : ChangeSpec := { name := "schemaSigns", fn := fun _ => fun
  | [d1, d2, d3] => { results := [.lit (.bool true)], args := [d1, d2, d3] }
  | _ => none }
def schemaSignsRow : OpenClaim := { program := "ytoahbekcegcghaa", sum := "f891624f7fd18983f6ef24a046e8fd88dc965c44bbaccaf7ecd38d0698dbd319", func := "scholium/scholiumlaw08.SchemaSigns", spec := "schemaSigns", apart := false }
def SchemaSignsSaid : Prop := schemaSignsRow.holds Try.pinned (OpenSpec.ofChange schemaSignsSpec)

/-- ITS FALSE NEIGHBOUR: 'it returns false'. Refute it at one input. -/
def schemaSignsWrong : ChangeSpec := { name := "schemaSigns", fn := fun _ => fun
  | [d1, d2, d3] => { results := [.lit (.bool false)], args := [d1, d2, d3] }
  | _ => none }
def SchemaSignsWrongFalsely : Prop := schemaSignsRow.holds Try.pinned (OpenSpec.ofChange schemaSignsWrong)

/-- 'scholiumlaw08.SchemaForms': WHATEVER THE INPUT: true; the input reads as it did. -/
def schemaFormsSpec : ChangeSpec := { name := "schemaForms", fn := fun _ => fun
  | [d] => { results := [.lit (.bool true)], args := [d] }
  | _ => none }
def schemaFormsRow : OpenClaim := { program := "ytoahbekcegcghaa", sum := "f891624f7fd18983f6ef24a046e8fd88dc965c44bbaccaf7ecd38d0698dbd319", func := "scholium/scholiumlaw08.SchemaForms", spec := "schemaForms", apart := false }
def SchemaFormsSaid : Prop := schemaFormsRow.holds Try.pinned (OpenSpec.ofChange schemaFormsSpec)

/-- ITS FALSE NEIGHBOUR: 'it returns false'. Refute it at one input. -/
def schemaFormsWrong : ChangeSpec := { name := "schemaForms", fn := fun _ => fun
  | [d] => { results := [.lit (.bool false)], args := [d] }
  | _ => none }
def SchemaFormsWrongFalsely : Prop := schemaFormsRow.holds Try.pinned (OpenSpec.ofChange schemaFormsWrong)

/-- 'scholiumlaw22.ChangePlaces': WHATEVER THE INPUT: true; the input reads as it did. -/
def changePlacesSpec : ChangeSpec := { name := "changePlaces", fn := fun _ => fun
  | [d1, d2, d3, d4] => { results := [.lit (.bool true)], args := [d1, d2, d3, d4] }
  | _ => none }
def changePlacesRow : OpenClaim := { program := "ytoahbekcegcghaa", sum := "f891624f7fd18983f6ef24a046e8fd88dc965c44bbaccaf7ecd38d0698dbd319", func := "scholium/scholiumlaw22.ChangePlaces", spec := "changePlaces", inPlace := ["slices.overlaps[int]", "slices.overlaps[scholium/api.Node]"], unfollowed := true, recurses := true, apart := false }
def ChangePlacesSaid : Prop := changePlacesRow.holds Try.pinned (OpenSpec.ofChange changePlacesSpec)

/-- ITS FALSE NEIGHBOUR: 'it returns false'. Refute it at one input. -/
def changePlacesWrong : ChangeSpec := { name := "changePlaces", fn := fun _ => fun
  | [d1, d2, d3, d4] => { results := [.lit (.bool false)], args := [d1, d2, d3, d4] }
  | _ => none }
def ChangePlacesWrongFalsely : Prop := changePlacesRow.holds Try.pinned (OpenSpec.ofChange changePlacesWrong)

/-- 'scholiumlaw22.ChangeKeys': WHATEVER THE INPUT: true; the input reads as it did. -/
def changeKeysSpec : ChangeSpec := { name := "changeKeys", fn := fun _ => fun
  | [d] => { results := [.lit (.bool true)], args := [d] }
  | _ => none }
def changeKeysRow : OpenClaim := { program := "ytoahbekcegcghaa", sum := "f891624f7fd18983f6ef24a046e8fd88dc965c44bbaccaf7ecd38d0698dbd319", func := "scholium/scholiumlaw22.ChangeKeys", spec := "changeKeys", inPlace := ["slices.overlaps[int]", "slices.overlaps[scholium/api.Node]"], unfollowed := true, recurses := true, apart := false }
def ChangeKeysSaid : Prop := changeKeysRow.holds Try.pinned (OpenSpec.ofChange changeKeysSpec)

/-- ITS FALSE NEIGHBOUR: 'it returns false'. Refute it at one input. -/
def changeKeysWrong : ChangeSpec := { name := "changeKeys", fn := fun _ => fun
  | [d] => { results := [.lit (.bool false)], args := [d] }
  | _ => none }
def ChangeKeysWrongFalsely : Prop := changeKeysRow.holds Try.pinned (OpenSpec.ofChange changeKeysWrong)

/- THE SECOND FORM. 'bulk': how many values and letters a reading holds, each counted each time it is reached (what is shared counts as often as it is met; a slice's spare places count too). A statement '..UptoSaid' is the law's where the arguments, and the package variables that the reading takes, are together of bulk at most 1048576: NARROWER than '..Said'. Prove '..Said' where nothing that the law and all that it calls make is longer than what came in: it says more and counts as full. Else prove '..UptoSaid'. A law counts once. -/
mutual
def uptoBulk {H : Type} : DataW H → Nat
  | .lit (.string bytes) => bytes.length + 1
  | .lit _ => 1
  | .nil => 1
  | .ptr d => uptoBulk d + 1
  | .slice elems spare => uptoBulkAll elems + uptoBulkAll spare + 1
  | .agg parts => uptoBulkAll parts + 1
  | .iface _ d => uptoBulk d + 1
  | .map entries => uptoBulkEntries entries + 1
  | .held _ => 1
def uptoBulkAll {H : Type} : List (DataW H) → Nat
  | [] => 0
  | d :: r => uptoBulk d + uptoBulkAll r
def uptoBulkEntries {H : Type} : List (Lit × DataW H) → Nat
  | [] => 0
  | x :: r => uptoBulkEntry x + uptoBulkEntries r
def uptoBulkEntry {H : Type} : Lit × DataW H → Nat
  | (.string bytes, d) => bytes.length + uptoBulk d + 1
  | (_, d) => uptoBulk d + 1
 end
def uptoSmall : (H : Type) → List (DataW H) → Bool := fun _ ds => decide (uptoBulkAll ds ≤ 1048576)
def OpenSpec.upto (s : _root_.Go.ChangeSpec) : _root_.Go.OpenSpec := { _root_.Go.OpenSpec.ofChange s with cond := some uptoSmall }

/-- 'scholiumlaw08.SchemaNumbers', WHERE WHAT IT READS IS OF BULK AT MOST 1048576: true; the input reads as it did. -/
def schemaNumbersUptoRow : OpenClaim := { program := "ytoahbekcegcghaa", sum := "f891624f7fd18983f6ef24a046e8fd88dc965c44bbaccaf7ecd38d0698dbd319", func := "scholium/scholiumlaw08.SchemaNumbers", spec := "schemaNumbers", apart := false, narrowed := true }
def SchemaNumbersUptoSaid : Prop := schemaNumbersUptoRow.holds Try.pinned (OpenSpec.upto schemaNumbersSpec)

/-- 'scholiumlaw08.SchemaOnce', WHERE WHAT IT READS IS OF BULK AT MOST 1048576: true; the input reads as it did. -/
def schemaOnceUptoRow : OpenClaim := { program := "ytoahbekcegcghaa", sum := "f891624f7fd18983f6ef24a046e8fd88dc965c44bbaccaf7ecd38d0698dbd319", func := "scholium/scholiumlaw08.SchemaOnce", spec := "schemaOnce", apart := false, narrowed := true }
def SchemaOnceUptoSaid : Prop := schemaOnceUptoRow.holds Try.pinned (OpenSpec.upto schemaOnceSpec)

/-- 'scholiumlaw08.SchemaTells', WHERE WHAT IT READS IS OF BULK AT MOST 1048576: true; the input reads as it did. -/
def schemaTellsUptoRow : OpenClaim := { program := "ytoahbekcegcghaa", sum := "f891624f7fd18983f6ef24a046e8fd88dc965c44bbaccaf7ecd38d0698dbd319", func := "scholium/scholiumlaw08.SchemaTells", spec := "schemaTells", apart := false, narrowed := true }
def SchemaTellsUptoSaid : Prop := schemaTellsUptoRow.holds Try.pinned (OpenSpec.upto schemaTellsSpec)

/-- 'scholiumlaw08.SchemaSigns', WHERE WHAT IT READS IS OF BULK AT MOST 1048576: true; the input reads as it did. -/
def schemaSignsUptoRow : OpenClaim := { program := "ytoahbekcegcghaa", sum := "f891624f7fd18983f6ef24a046e8fd88dc965c44bbaccaf7ecd38d0698dbd319", func := "scholium/scholiumlaw08.SchemaSigns", spec := "schemaSigns", apart := false, narrowed := true }
def SchemaSignsUptoSaid : Prop := schemaSignsUptoRow.holds Try.pinned (OpenSpec.upto schemaSignsSpec)

/-- 'scholiumlaw08.SchemaForms', WHERE WHAT IT READS IS OF BULK AT MOST 1048576: true; the input reads as it did. -/
def schemaFormsUptoRow : OpenClaim := { program := "ytoahbekcegcghaa", sum := "f891624f7fd18983f6ef24a046e8fd88dc965c44bbaccaf7ecd38d0698dbd319", func := "scholium/scholiumlaw08.SchemaForms", spec := "schemaForms", apart := false, narrowed := true }
def SchemaFormsUptoSaid : Prop := schemaFormsUptoRow.holds Try.pinned (OpenSpec.upto schemaFormsSpec)

/-- 'scholiumlaw22.ChangePlaces', WHERE WHAT IT READS IS OF BULK AT MOST 1048576: true; the input reads as it did. -/
def changePlacesUptoRow : OpenClaim := { program := "ytoahbekcegcghaa", sum := "f891624f7fd18983f6ef24a046e8fd88dc965c44bbaccaf7ecd38d0698dbd319", func := "scholium/scholiumlaw22.ChangePlaces", spec := "changePlaces", inPlace := ["slices.overlaps[int]", "slices.overlaps[scholium/api.Node]"], unfollowed := true, recurses := true, apart := false, narrowed := true }
def ChangePlacesUptoSaid : Prop := changePlacesUptoRow.holds Try.pinned (OpenSpec.upto changePlacesSpec)

/-- 'scholiumlaw22.ChangeKeys', WHERE WHAT IT READS IS OF BULK AT MOST 1048576: true; the input reads as it did. -/
def changeKeysUptoRow : OpenClaim := { program := "ytoahbekcegcghaa", sum := "f891624f7fd18983f6ef24a046e8fd88dc965c44bbaccaf7ecd38d0698dbd319", func := "scholium/scholiumlaw22.ChangeKeys", spec := "changeKeys", inPlace := ["slices.overlaps[int]", "slices.overlaps[scholium/api.Node]"], unfollowed := true, recurses := true, apart := false, narrowed := true }
def ChangeKeysUptoSaid : Prop := changeKeysUptoRow.holds Try.pinned (OpenSpec.upto changeKeysSpec)

end Rows
end Go.Proofs.Ytoahbekcegcghaa
