/-
  No cell of these rows narrows 'for every input' (looked for: loops, veiled, ifaces, maps, wideKeys, modest, calm, conditions, laid).
  DERIVED. THE GIVEN ROWS OF THIS SEAT. 5 by the template 'for every input the law returns true; each argument reads behind the call as it read before'; 0 by the template 'total and deterministic' (their statements: YthdmanngjnfamaaTotals.lean).
  GIVEN WITH THE SEED: the statements are not yours to turn. If you find one false, say at which input.
  Laid BY PROGRAM, IN A SANDBOX (cutbox-rows.mjs): the forced cells as the released guide's own fill.sh prints them over the translation 3e4f1e83e86b00c9… (all of the seat's roots in one cut). By AI agents, Wed Nov 11 2026. No macro, syntax, notation, axiom, sorry.
-/
import Derived.Test.YthdmanngjnfamaaChecked
import GoSem.Claim
import GoSem.ClaimJoined
import GoSem.ClaimMapViews
import Derived.JoinedTies
import Derived.KernelRfl
namespace Go.Proofs.Ythdmanngjnfamaa
/- THE CELL 'sum', in the pinned program and in every row, IS THE sha256 OF THE DUMP (.gsa) THAT YthdmanngjnfamaaProg.lean LOADS. Nothing in Lean hashes anything: it is a label: what it is worth is what the hold of that sum in a sandbox is worth. -/
noncomputable def Try.pinned : Pinned := { name := "ythdmanngjnfamaa", sum := "3e4f1e83e86b00c936311c53716de8795a7a425ec2ad4bd4728ccb486184122a", checked := Try.checked }
namespace Rows
def none {H : Type} : Left H := { results := [], args := [] }

/-- 'laws.FnExactSylvesterMatrix': WHATEVER THE INPUT: true; the input reads as it did. -/
def fnExactSylvesterMatrixSpec : ChangeSpec := { name := "fnExactSylvesterMatrix", fn := fun _ => fun
  | [d1, d2] => { results := [.lit (.bool true)], args := [d1, d2] }
  | _ => none }
def fnExactSylvesterMatrixRow : OpenClaim := { program := "ythdmanngjnfamaa", sum := "3e4f1e83e86b00c936311c53716de8795a7a425ec2ad4bd4728ccb486184122a", func := "loop.example/g01000/laws.FnExactSylvesterMatrix", spec := "fnExactSylvesterMatrix", unfollowed := true, recurses := true, apart := false }
def FnExactSylvesterMatrixSaid : Prop := fnExactSylvesterMatrixRow.holds Try.pinned (OpenSpec.ofChange fnExactSylvesterMatrixSpec)

/-- ITS FALSE NEIGHBOUR: 'it returns false'. Refute it at one input. -/
def fnExactSylvesterMatrixWrong : ChangeSpec := { name := "fnExactSylvesterMatrix", fn := fun _ => fun
  | [d1, d2] => { results := [.lit (.bool false)], args := [d1, d2] }
  | _ => none }
def FnExactSylvesterMatrixWrongFalsely : Prop := fnExactSylvesterMatrixRow.holds Try.pinned (OpenSpec.ofChange fnExactSylvesterMatrixWrong)

/-- 'laws.FnRationals': WHATEVER THE INPUT: true; the input reads as it did. -/
def fnRationalsSpec : ChangeSpec := { name := "fnRationals", fn := fun _ => fun
  | [d] => { results := [.lit (.bool true)], args := [d] }
  | _ => none }
def fnRationalsRow : OpenClaim := { program := "ythdmanngjnfamaa", sum := "3e4f1e83e86b00c936311c53716de8795a7a425ec2ad4bd4728ccb486184122a", func := "loop.example/g01000/laws.FnRationals", spec := "fnRationals", apart := false }
def FnRationalsSaid : Prop := fnRationalsRow.holds Try.pinned (OpenSpec.ofChange fnRationalsSpec)

/-- ITS FALSE NEIGHBOUR: 'it returns false'. Refute it at one input. -/
def fnRationalsWrong : ChangeSpec := { name := "fnRationals", fn := fun _ => fun
  | [d] => { results := [.lit (.bool false)], args := [d] }
  | _ => none }
def FnRationalsWrongFalsely : Prop := fnRationalsRow.holds Try.pinned (OpenSpec.ofChange fnRationalsWrong)

/-- 'laws.FnPolynomialValues': WHATEVER THE INPUT: true; the input reads as it did. -/
def fnPolynomialValuesSpec : ChangeSpec := { name := "fnPolynomialValues", fn := fun _ => fun
  | [d] => { results := [.lit (.bool true)], args := [d] }
  | _ => none }
def fnPolynomialValuesRow : OpenClaim := { program := "ythdmanngjnfamaa", sum := "3e4f1e83e86b00c936311c53716de8795a7a425ec2ad4bd4728ccb486184122a", func := "loop.example/g01000/laws.FnPolynomialValues", spec := "fnPolynomialValues", unfollowed := true, recurses := true, apart := false }
def FnPolynomialValuesSaid : Prop := fnPolynomialValuesRow.holds Try.pinned (OpenSpec.ofChange fnPolynomialValuesSpec)

/-- ITS FALSE NEIGHBOUR: 'it returns false'. Refute it at one input. -/
def fnPolynomialValuesWrong : ChangeSpec := { name := "fnPolynomialValues", fn := fun _ => fun
  | [d] => { results := [.lit (.bool false)], args := [d] }
  | _ => none }
def FnPolynomialValuesWrongFalsely : Prop := fnPolynomialValuesRow.holds Try.pinned (OpenSpec.ofChange fnPolynomialValuesWrong)

/-- 'laws.FnPolygons': WHATEVER THE INPUT: true; the input reads as it did. -/
def fnPolygonsSpec : ChangeSpec := { name := "fnPolygons", fn := fun _ => fun
  | [d] => { results := [.lit (.bool true)], args := [d] }
  | _ => none }
def fnPolygonsRow : OpenClaim := { program := "ythdmanngjnfamaa", sum := "3e4f1e83e86b00c936311c53716de8795a7a425ec2ad4bd4728ccb486184122a", func := "loop.example/g01000/laws.FnPolygons", spec := "fnPolygons", unfollowed := true, recurses := true, apart := false }
def FnPolygonsSaid : Prop := fnPolygonsRow.holds Try.pinned (OpenSpec.ofChange fnPolygonsSpec)

/-- ITS FALSE NEIGHBOUR: 'it returns false'. Refute it at one input. -/
def fnPolygonsWrong : ChangeSpec := { name := "fnPolygons", fn := fun _ => fun
  | [d] => { results := [.lit (.bool false)], args := [d] }
  | _ => none }
def FnPolygonsWrongFalsely : Prop := fnPolygonsRow.holds Try.pinned (OpenSpec.ofChange fnPolygonsWrong)

/-- 'laws.FnCorners': WHATEVER THE INPUT: true; the input reads as it did. -/
def fnCornersSpec : ChangeSpec := { name := "fnCorners", fn := fun _ => fun
  | [d] => { results := [.lit (.bool true)], args := [d] }
  | _ => none }
def fnCornersRow : OpenClaim := { program := "ythdmanngjnfamaa", sum := "3e4f1e83e86b00c936311c53716de8795a7a425ec2ad4bd4728ccb486184122a", func := "loop.example/g01000/laws.FnCorners", spec := "fnCorners", unfollowed := true, recurses := true, apart := false }
def FnCornersSaid : Prop := fnCornersRow.holds Try.pinned (OpenSpec.ofChange fnCornersSpec)

/-- ITS FALSE NEIGHBOUR: 'it returns false'. Refute it at one input. -/
def fnCornersWrong : ChangeSpec := { name := "fnCorners", fn := fun _ => fun
  | [d] => { results := [.lit (.bool false)], args := [d] }
  | _ => none }
def FnCornersWrongFalsely : Prop := fnCornersRow.holds Try.pinned (OpenSpec.ofChange fnCornersWrong)

/- THE SECOND FORM. 'bulk': how many values and letters a reading holds, each counted each time it is reached (what is shared counts as often as it is met; a slice's spare places count too). A statement '..UptoSaid' is the law's where the arguments, and the package variables that the reading takes, are together of bulk at most 1048576: NARROWER than '..Said'. Prove '..Said' where nothing that the law and all that it calls make is longer than what came in: it says more and counts as full. Else prove '..UptoSaid'. A law counts once. -/
mutual
def uptoBulk {H : Type} : DataW H → Nat
  | .lit (.string bytes) => bytes.length + 1
  | .lit _ => 1
  | .nil => 1
  | .ptr d => uptoBulk d + 1
  | .slice elems spare => uptoBulkAll elems + uptoBulkAll spare + 1
  | .agg parts => uptoBulkAll parts + 1
  | .iface _ d => uptoBulk d + 1
  | .map entries => uptoBulkEntries entries + 1
  | .held _ => 1
def uptoBulkAll {H : Type} : List (DataW H) → Nat
  | [] => 0
  | d :: r => uptoBulk d + uptoBulkAll r
def uptoBulkEntries {H : Type} : List (Lit × DataW H) → Nat
  | [] => 0
  | x :: r => uptoBulkEntry x + uptoBulkEntries r
def uptoBulkEntry {H : Type} : Lit × DataW H → Nat
  | (.string bytes, d) => bytes.length + uptoBulk d + 1
  | (_, d) => uptoBulk d + 1
 end
def uptoSmall : (H : Type) → List (DataW H) → Bool := fun _ ds => decide (uptoBulkAll ds ≤ 1048576)
def OpenSpec.upto (s : _root_.Go.ChangeSpec) : _root_.Go.OpenSpec := { _root_.Go.OpenSpec.ofChange s with cond := some uptoSmall }

/-- 'laws.FnExactSylvesterMatrix', WHERE WHAT IT READS IS OF BULK AT MOST 1048576: true; the input reads as it did. -/
def fnExactSylvesterMatrixUptoRow : OpenClaim := { program := "ythdmanngjnfamaa", sum := "3e4f1e83e86b00c936311c53716de8795a7a425ec2ad4bd4728ccb486184122a", func := "loop.example/g01000/laws.FnExactSylvesterMatrix", spec := "fnExactSylvesterMatrix", unfollowed := true, recurses := true, apart := false, narrowed := true }
def FnExactSylvesterMatrixUptoSaid : Prop := fnExactSylvesterMatrixUptoRow.holds Try.pinned (OpenSpec.upto fnExactSylvesterMatrixSpec)

/-- 'laws.FnRationals', WHERE WHAT IT READS IS OF BULK AT MOST 1048576: true; the input reads as it did. -/
def fnRationalsUptoRow : OpenClaim := { program := "ythdmanngjnfamaa", sum := "3e4f1e83e86b00c936311c53716de8795a7a425ec2ad4bd4728ccb486184122a", func := "loop.example/g01000/laws.FnRationals", spec := "fnRationals", apart := false, narrowed := true }
def FnRationalsUptoSaid : Prop := fnRationalsUptoRow.holds Try.pinned (OpenSpec.upto fnRationalsSpec)

/-- 'laws.FnPolynomialValues', WHERE WHAT IT READS IS OF BULK AT MOST 1048576: true; the input reads as it did. -/
def fnPolynomialValuesUptoRow : OpenClaim := { program := "ythdmanngjnfamaa", sum := "3e4f1e83e86b00c936311c53716de8795a7a425ec2ad4bd4728ccb486184122a", func := "loop.example/g01000/laws.FnPolynomialValues", spec := "fnPolynomialValues", unfollowed := true, recurses := true, apart := false, narrowed := true }
def FnPolynomialValuesUptoSaid : Prop := fnPolynomialValuesUptoRow.holds Try.pinned (OpenSpec.upto fnPolynomialValuesSpec)

/-- 'laws.FnPolygons', WHERE WHAT IT READS IS OF BULK AT MOST 1048576: true; the input reads as it did. -/
def fnPolygonsUptoRow : OpenClaim := { program := "ythdmanngjnfamaa", sum := "3e4f1e83e86b00c936311c53716de8795a7a425ec2ad4bd4728ccb486184122a", func := "loop.example/g01000/laws.FnPolygons", spec := "fnPolygons", unfollowed := true, recurses := true, apart := false, narrowed := true }
def FnPolygonsUptoSaid : Prop := fnPolygonsUptoRow.holds Try.pinned (OpenSpec.upto fnPolygonsSpec)

/-- 'laws.FnCorners', WHERE WHAT IT READS IS OF BULK AT MOST 1048576: true; the input reads as it did. -/
def fnCornersUptoRow : OpenClaim := { program := "ythdmanngjnfamaa", sum := "3e4f1e83e86b00c936311c53716de8795a7a425ec2ad4bd4728ccb486184122a", func := "loop.example/g01000/laws.FnCorners", spec := "fnCorners", unfollowed := true, recurses := true, apart := false, narrowed := true }
def FnCornersUptoSaid : Prop := fnCornersUptoRow.holds Try.pinned (OpenSpec.upto fnCornersSpec)

end Rows
end Go.Proofs.Ythdmanngjnfamaa
