/-
  No cell of these rows narrows 'for every input' (looked for: loops, veiled, ifaces, maps, wideKeys, modest, calm, conditions, laid).
  DERIVED. THE GIVEN ROWS OF THIS SEAT. 12 by the template 'for every input the law returns true; each argument reads behind the call as it read before'; 0 by the template 'total and deterministic' (their statements: YtjipalcceflkfaaTotals.lean).
  GIVEN WITH THE SEED: the statements are not yours to turn. If you find one false, say at which input.
  Laid BY PROGRAM, IN A SANDBOX (cutbox-rows.mjs): the forced cells as the released guide's own fill.sh prints them over the translation 7d0b1a393764e207… (all of the seat's roots in one cut). By AI agents, Wed Nov 11 2026. No macro, syntax, notation, axiom, sorry.
-/
import Derived.Test.YtjipalcceflkfaaChecked
import GoSem.Claim
import GoSem.ClaimJoined
import GoSem.ClaimMapViews
import Derived.JoinedTies
import Derived.KernelRfl
namespace Go.Proofs.Ytjipalcceflkfaa
/- THE CELL 'sum', in the pinned program and in every row, IS THE sha256 OF THE DUMP (.gsa) THAT YtjipalcceflkfaaProg.lean LOADS. Nothing in Lean hashes anything: it is a label: what it is worth is what the hold of that sum in a sandbox is worth. -/
noncomputable def Try.pinned : Pinned := { name := "ytjipalcceflkfaa", sum := "7d0b1a393764e207381572d374de7a2c4bc9b447f6689d85fafb546513b6c88c", checked := Try.checked }
namespace Rows
def none {H : Type} : Left H := { results := [], args := [] }

/-- 'laws.FnExactPolynomialWith': WHATEVER THE INPUT: true; the input reads as it did. -/
def fnExactPolynomialWithSpec : ChangeSpec := { name := "fnExactPolynomialWith", fn := fun _ => fun
  | [d1, d2] => { results := [.lit (.bool true)], args := [d1, d2] }
  | _ => none }
def fnExactPolynomialWithRow : OpenClaim := { program := "ytjipalcceflkfaa", sum := "7d0b1a393764e207381572d374de7a2c4bc9b447f6689d85fafb546513b6c88c", func := "loop.example/g01000/laws.FnExactPolynomialWith", spec := "fnExactPolynomialWith", apart := false }
def FnExactPolynomialWithSaid : Prop := fnExactPolynomialWithRow.holds Try.pinned (OpenSpec.ofChange fnExactPolynomialWithSpec)

/-- ITS FALSE NEIGHBOUR: 'it returns false'. Refute it at one input. -/
def fnExactPolynomialWithWrong : ChangeSpec := { name := "fnExactPolynomialWith", fn := fun _ => fun
  | [d1, d2] => { results := [.lit (.bool false)], args := [d1, d2] }
  | _ => none }
def FnExactPolynomialWithWrongFalsely : Prop := fnExactPolynomialWithRow.holds Try.pinned (OpenSpec.ofChange fnExactPolynomialWithWrong)

/-- 'laws.FnExactNumberOf': WHATEVER THE INPUT: true; the input reads as it did. -/
def fnExactNumberOfSpec : ChangeSpec := { name := "fnExactNumberOf", fn := fun _ => fun
  | [d1, d2] => { results := [.lit (.bool true)], args := [d1, d2] }
  | _ => none }
def fnExactNumberOfRow : OpenClaim := { program := "ytjipalcceflkfaa", sum := "7d0b1a393764e207381572d374de7a2c4bc9b447f6689d85fafb546513b6c88c", func := "loop.example/g01000/laws.FnExactNumberOf", spec := "fnExactNumberOf", unfollowed := true, recurses := true, apart := false }
def FnExactNumberOfSaid : Prop := fnExactNumberOfRow.holds Try.pinned (OpenSpec.ofChange fnExactNumberOfSpec)

/-- ITS FALSE NEIGHBOUR: 'it returns false'. Refute it at one input. -/
def fnExactNumberOfWrong : ChangeSpec := { name := "fnExactNumberOf", fn := fun _ => fun
  | [d1, d2] => { results := [.lit (.bool false)], args := [d1, d2] }
  | _ => none }
def FnExactNumberOfWrongFalsely : Prop := fnExactNumberOfRow.holds Try.pinned (OpenSpec.ofChange fnExactNumberOfWrong)

/-- 'laws.FnExactComparePolynomials': WHATEVER THE INPUT: true; the input reads as it did. -/
def fnExactComparePolynomialsSpec : ChangeSpec := { name := "fnExactComparePolynomials", fn := fun _ => fun
  | [d1, d2, d3] => { results := [.lit (.bool true)], args := [d1, d2, d3] }
  | _ => none }
def fnExactComparePolynomialsRow : OpenClaim := { program := "ytjipalcceflkfaa", sum := "7d0b1a393764e207381572d374de7a2c4bc9b447f6689d85fafb546513b6c88c", func := "loop.example/g01000/laws.FnExactComparePolynomials", spec := "fnExactComparePolynomials", unfollowed := true, recurses := true, apart := false }
def FnExactComparePolynomialsSaid : Prop := fnExactComparePolynomialsRow.holds Try.pinned (OpenSpec.ofChange fnExactComparePolynomialsSpec)

/-- ITS FALSE NEIGHBOUR: 'it returns false'. Refute it at one input. -/
def fnExactComparePolynomialsWrong : ChangeSpec := { name := "fnExactComparePolynomials", fn := fun _ => fun
  | [d1, d2, d3] => { results := [.lit (.bool false)], args := [d1, d2, d3] }
  | _ => none }
def FnExactComparePolynomialsWrongFalsely : Prop := fnExactComparePolynomialsRow.holds Try.pinned (OpenSpec.ofChange fnExactComparePolynomialsWrong)

/-- 'laws.FnExactIsEisenstein': WHATEVER THE INPUT: true; the input reads as it did. -/
def fnExactIsEisensteinSpec : ChangeSpec := { name := "fnExactIsEisenstein", fn := fun _ => fun
  | [d1, d2] => { results := [.lit (.bool true)], args := [d1, d2] }
  | _ => none }
def fnExactIsEisensteinRow : OpenClaim := { program := "ytjipalcceflkfaa", sum := "7d0b1a393764e207381572d374de7a2c4bc9b447f6689d85fafb546513b6c88c", func := "loop.example/g01000/laws.FnExactIsEisenstein", spec := "fnExactIsEisenstein", unfollowed := true, recurses := true, apart := false }
def FnExactIsEisensteinSaid : Prop := fnExactIsEisensteinRow.holds Try.pinned (OpenSpec.ofChange fnExactIsEisensteinSpec)

/-- ITS FALSE NEIGHBOUR: 'it returns false'. Refute it at one input. -/
def fnExactIsEisensteinWrong : ChangeSpec := { name := "fnExactIsEisenstein", fn := fun _ => fun
  | [d1, d2] => { results := [.lit (.bool false)], args := [d1, d2] }
  | _ => none }
def FnExactIsEisensteinWrongFalsely : Prop := fnExactIsEisensteinRow.holds Try.pinned (OpenSpec.ofChange fnExactIsEisensteinWrong)

/-- 'laws.FnExactIsTame': WHATEVER THE INPUT: true; the input reads as it did. -/
def fnExactIsTameSpec : ChangeSpec := { name := "fnExactIsTame", fn := fun _ => fun
  | [d1, d2] => { results := [.lit (.bool true)], args := [d1, d2] }
  | _ => none }
def fnExactIsTameRow : OpenClaim := { program := "ytjipalcceflkfaa", sum := "7d0b1a393764e207381572d374de7a2c4bc9b447f6689d85fafb546513b6c88c", func := "loop.example/g01000/laws.FnExactIsTame", spec := "fnExactIsTame", unfollowed := true, recurses := true, apart := false }
def FnExactIsTameSaid : Prop := fnExactIsTameRow.holds Try.pinned (OpenSpec.ofChange fnExactIsTameSpec)

/-- ITS FALSE NEIGHBOUR: 'it returns false'. Refute it at one input. -/
def fnExactIsTameWrong : ChangeSpec := { name := "fnExactIsTame", fn := fun _ => fun
  | [d1, d2] => { results := [.lit (.bool false)], args := [d1, d2] }
  | _ => none }
def FnExactIsTameWrongFalsely : Prop := fnExactIsTameRow.holds Try.pinned (OpenSpec.ofChange fnExactIsTameWrong)

/-- 'laws.FnExactReducePolynomial': WHATEVER THE INPUT: true; the input reads as it did. -/
def fnExactReducePolynomialSpec : ChangeSpec := { name := "fnExactReducePolynomial", fn := fun _ => fun
  | [d1, d2] => { results := [.lit (.bool true)], args := [d1, d2] }
  | _ => none }
def fnExactReducePolynomialRow : OpenClaim := { program := "ytjipalcceflkfaa", sum := "7d0b1a393764e207381572d374de7a2c4bc9b447f6689d85fafb546513b6c88c", func := "loop.example/g01000/laws.FnExactReducePolynomial", spec := "fnExactReducePolynomial", unfollowed := true, recurses := true, apart := false }
def FnExactReducePolynomialSaid : Prop := fnExactReducePolynomialRow.holds Try.pinned (OpenSpec.ofChange fnExactReducePolynomialSpec)

/-- ITS FALSE NEIGHBOUR: 'it returns false'. Refute it at one input. -/
def fnExactReducePolynomialWrong : ChangeSpec := { name := "fnExactReducePolynomial", fn := fun _ => fun
  | [d1, d2] => { results := [.lit (.bool false)], args := [d1, d2] }
  | _ => none }
def FnExactReducePolynomialWrongFalsely : Prop := fnExactReducePolynomialRow.holds Try.pinned (OpenSpec.ofChange fnExactReducePolynomialWrong)

/-- 'laws.FnExactRootsModular': WHATEVER THE INPUT: true; the input reads as it did. -/
def fnExactRootsModularSpec : ChangeSpec := { name := "fnExactRootsModular", fn := fun _ => fun
  | [d1, d2] => { results := [.lit (.bool true)], args := [d1, d2] }
  | _ => none }
def fnExactRootsModularRow : OpenClaim := { program := "ytjipalcceflkfaa", sum := "7d0b1a393764e207381572d374de7a2c4bc9b447f6689d85fafb546513b6c88c", func := "loop.example/g01000/laws.FnExactRootsModular", spec := "fnExactRootsModular", unfollowed := true, recurses := true, apart := false }
def FnExactRootsModularSaid : Prop := fnExactRootsModularRow.holds Try.pinned (OpenSpec.ofChange fnExactRootsModularSpec)

/-- ITS FALSE NEIGHBOUR: 'it returns false'. Refute it at one input. -/
def fnExactRootsModularWrong : ChangeSpec := { name := "fnExactRootsModular", fn := fun _ => fun
  | [d1, d2] => { results := [.lit (.bool false)], args := [d1, d2] }
  | _ => none }
def FnExactRootsModularWrongFalsely : Prop := fnExactRootsModularRow.holds Try.pinned (OpenSpec.ofChange fnExactRootsModularWrong)

/-- 'laws.FnExactDerivativeModular': WHATEVER THE INPUT: true; the input reads as it did. -/
def fnExactDerivativeModularSpec : ChangeSpec := { name := "fnExactDerivativeModular", fn := fun _ => fun
  | [d1, d2] => { results := [.lit (.bool true)], args := [d1, d2] }
  | _ => none }
def fnExactDerivativeModularRow : OpenClaim := { program := "ytjipalcceflkfaa", sum := "7d0b1a393764e207381572d374de7a2c4bc9b447f6689d85fafb546513b6c88c", func := "loop.example/g01000/laws.FnExactDerivativeModular", spec := "fnExactDerivativeModular", unfollowed := true, recurses := true, apart := false }
def FnExactDerivativeModularSaid : Prop := fnExactDerivativeModularRow.holds Try.pinned (OpenSpec.ofChange fnExactDerivativeModularSpec)

/-- ITS FALSE NEIGHBOUR: 'it returns false'. Refute it at one input. -/
def fnExactDerivativeModularWrong : ChangeSpec := { name := "fnExactDerivativeModular", fn := fun _ => fun
  | [d1, d2] => { results := [.lit (.bool false)], args := [d1, d2] }
  | _ => none }
def FnExactDerivativeModularWrongFalsely : Prop := fnExactDerivativeModularRow.holds Try.pinned (OpenSpec.ofChange fnExactDerivativeModularWrong)

/-- 'laws.FnExactPowerSums': WHATEVER THE INPUT: true; the input reads as it did. -/
def fnExactPowerSumsSpec : ChangeSpec := { name := "fnExactPowerSums", fn := fun _ => fun
  | [d1, d2] => { results := [.lit (.bool true)], args := [d1, d2] }
  | _ => none }
def fnExactPowerSumsRow : OpenClaim := { program := "ytjipalcceflkfaa", sum := "7d0b1a393764e207381572d374de7a2c4bc9b447f6689d85fafb546513b6c88c", func := "loop.example/g01000/laws.FnExactPowerSums", spec := "fnExactPowerSums", unfollowed := true, recurses := true, apart := false }
def FnExactPowerSumsSaid : Prop := fnExactPowerSumsRow.holds Try.pinned (OpenSpec.ofChange fnExactPowerSumsSpec)

/-- ITS FALSE NEIGHBOUR: 'it returns false'. Refute it at one input. -/
def fnExactPowerSumsWrong : ChangeSpec := { name := "fnExactPowerSums", fn := fun _ => fun
  | [d1, d2] => { results := [.lit (.bool false)], args := [d1, d2] }
  | _ => none }
def FnExactPowerSumsWrongFalsely : Prop := fnExactPowerSumsRow.holds Try.pinned (OpenSpec.ofChange fnExactPowerSumsWrong)

/-- 'laws.FnExactSylvesterMatrix': WHATEVER THE INPUT: true; the input reads as it did. -/
def fnExactSylvesterMatrixSpec : ChangeSpec := { name := "fnExactSylvesterMatrix", fn := fun _ => fun
  | [d1, d2] => { results := [.lit (.bool true)], args := [d1, d2] }
  | _ => none }
def fnExactSylvesterMatrixRow : OpenClaim := { program := "ytjipalcceflkfaa", sum := "7d0b1a393764e207381572d374de7a2c4bc9b447f6689d85fafb546513b6c88c", func := "loop.example/g01000/laws.FnExactSylvesterMatrix", spec := "fnExactSylvesterMatrix", unfollowed := true, recurses := true, apart := false }
def FnExactSylvesterMatrixSaid : Prop := fnExactSylvesterMatrixRow.holds Try.pinned (OpenSpec.ofChange fnExactSylvesterMatrixSpec)

/-- ITS FALSE NEIGHBOUR: 'it returns false'. Refute it at one input. -/
def fnExactSylvesterMatrixWrong : ChangeSpec := { name := "fnExactSylvesterMatrix", fn := fun _ => fun
  | [d1, d2] => { results := [.lit (.bool false)], args := [d1, d2] }
  | _ => none }
def FnExactSylvesterMatrixWrongFalsely : Prop := fnExactSylvesterMatrixRow.holds Try.pinned (OpenSpec.ofChange fnExactSylvesterMatrixWrong)

/-- 'laws.FnExactJoinSlopes': WHATEVER THE INPUT: true; the input reads as it did. -/
def fnExactJoinSlopesSpec : ChangeSpec := { name := "fnExactJoinSlopes", fn := fun _ => fun
  | [d1, d2] => { results := [.lit (.bool true)], args := [d1, d2] }
  | _ => none }
def fnExactJoinSlopesRow : OpenClaim := { program := "ytjipalcceflkfaa", sum := "7d0b1a393764e207381572d374de7a2c4bc9b447f6689d85fafb546513b6c88c", func := "loop.example/g01000/laws.FnExactJoinSlopes", spec := "fnExactJoinSlopes", apart := false }
def FnExactJoinSlopesSaid : Prop := fnExactJoinSlopesRow.holds Try.pinned (OpenSpec.ofChange fnExactJoinSlopesSpec)

/-- ITS FALSE NEIGHBOUR: 'it returns false'. Refute it at one input. -/
def fnExactJoinSlopesWrong : ChangeSpec := { name := "fnExactJoinSlopes", fn := fun _ => fun
  | [d1, d2] => { results := [.lit (.bool false)], args := [d1, d2] }
  | _ => none }
def FnExactJoinSlopesWrongFalsely : Prop := fnExactJoinSlopesRow.holds Try.pinned (OpenSpec.ofChange fnExactJoinSlopesWrong)

/-- 'laws.FnCommon': WHATEVER THE INPUT: true; the input reads as it did. -/
def fnCommonSpec : ChangeSpec := { name := "fnCommon", fn := fun _ => fun
  | [d] => { results := [.lit (.bool true)], args := [d] }
  | _ => none }
def fnCommonRow : OpenClaim := { program := "ytjipalcceflkfaa", sum := "7d0b1a393764e207381572d374de7a2c4bc9b447f6689d85fafb546513b6c88c", func := "loop.example/g01000/laws.FnCommon", spec := "fnCommon", apart := false }
def FnCommonSaid : Prop := fnCommonRow.holds Try.pinned (OpenSpec.ofChange fnCommonSpec)

/-- ITS FALSE NEIGHBOUR: 'it returns false'. Refute it at one input. -/
def fnCommonWrong : ChangeSpec := { name := "fnCommon", fn := fun _ => fun
  | [d] => { results := [.lit (.bool false)], args := [d] }
  | _ => none }
def FnCommonWrongFalsely : Prop := fnCommonRow.holds Try.pinned (OpenSpec.ofChange fnCommonWrong)

/- THE SECOND FORM. 'bulk': how many values and letters a reading holds, each counted each time it is reached (what is shared counts as often as it is met; a slice's spare places count too). A statement '..UptoSaid' is the law's where the arguments, and the package variables that the reading takes, are together of bulk at most 1048576: NARROWER than '..Said'. Prove '..Said' where nothing that the law and all that it calls make is longer than what came in: it says more and counts as full. Else prove '..UptoSaid'. A law counts once. -/
mutual
def uptoBulk {H : Type} : DataW H → Nat
  | .lit (.string bytes) => bytes.length + 1
  | .lit _ => 1
  | .nil => 1
  | .ptr d => uptoBulk d + 1
  | .slice elems spare => uptoBulkAll elems + uptoBulkAll spare + 1
  | .agg parts => uptoBulkAll parts + 1
  | .iface _ d => uptoBulk d + 1
  | .map entries => uptoBulkEntries entries + 1
  | .held _ => 1
def uptoBulkAll {H : Type} : List (DataW H) → Nat
  | [] => 0
  | d :: r => uptoBulk d + uptoBulkAll r
def uptoBulkEntries {H : Type} : List (Lit × DataW H) → Nat
  | [] => 0
  | x :: r => uptoBulkEntry x + uptoBulkEntries r
def uptoBulkEntry {H : Type} : Lit × DataW H → Nat
  | (.string bytes, d) => bytes.length + uptoBulk d + 1
  | (_, d) => uptoBulk d + 1
 end
def uptoSmall : (H : Type) → List (DataW H) → Bool := fun _ ds => decide (uptoBulkAll ds ≤ 1048576)
def OpenSpec.upto (s : _root_.Go.ChangeSpec) : _root_.Go.OpenSpec := { _root_.Go.OpenSpec.ofChange s with cond := some uptoSmall }

/-- 'laws.FnExactPolynomialWith', WHERE WHAT IT READS IS OF BULK AT MOST 1048576: true; the input reads as it did. -/
def fnExactPolynomialWithUptoRow : OpenClaim := { program := "ytjipalcceflkfaa", sum := "7d0b1a393764e207381572d374de7a2c4bc9b447f6689d85fafb546513b6c88c", func := "loop.example/g01000/laws.FnExactPolynomialWith", spec := "fnExactPolynomialWith", apart := false, narrowed := true }
def FnExactPolynomialWithUptoSaid : Prop := fnExactPolynomialWithUptoRow.holds Try.pinned (OpenSpec.upto fnExactPolynomialWithSpec)

/-- 'laws.FnExactNumberOf', WHERE WHAT IT READS IS OF BULK AT MOST 1048576: true; the input reads as it did. -/
def fnExactNumberOfUptoRow : OpenClaim := { program := "ytjipalcceflkfaa", sum := "7d0b1a393764e207381572d374de7a2c4bc9b447f6689d85fafb546513b6c88c", func := "loop.example/g01000/laws.FnExactNumberOf", spec := "fnExactNumberOf", unfollowed := true, recurses := true, apart := false, narrowed := true }
def FnExactNumberOfUptoSaid : Prop := fnExactNumberOfUptoRow.holds Try.pinned (OpenSpec.upto fnExactNumberOfSpec)

/-- 'laws.FnExactComparePolynomials', WHERE WHAT IT READS IS OF BULK AT MOST 1048576: true; the input reads as it did. -/
def fnExactComparePolynomialsUptoRow : OpenClaim := { program := "ytjipalcceflkfaa", sum := "7d0b1a393764e207381572d374de7a2c4bc9b447f6689d85fafb546513b6c88c", func := "loop.example/g01000/laws.FnExactComparePolynomials", spec := "fnExactComparePolynomials", unfollowed := true, recurses := true, apart := false, narrowed := true }
def FnExactComparePolynomialsUptoSaid : Prop := fnExactComparePolynomialsUptoRow.holds Try.pinned (OpenSpec.upto fnExactComparePolynomialsSpec)

/-- 'laws.FnExactIsEisenstein', WHERE WHAT IT READS IS OF BULK AT MOST 1048576: true; the input reads as it did. -/
def fnExactIsEisensteinUptoRow : OpenClaim := { program := "ytjipalcceflkfaa", sum := "7d0b1a393764e207381572d374de7a2c4bc9b447f6689d85fafb546513b6c88c", func := "loop.example/g01000/laws.FnExactIsEisenstein", spec := "fnExactIsEisenstein", unfollowed := true, recurses := true, apart := false, narrowed := true }
def FnExactIsEisensteinUptoSaid : Prop := fnExactIsEisensteinUptoRow.holds Try.pinned (OpenSpec.upto fnExactIsEisensteinSpec)

/-- 'laws.FnExactIsTame', WHERE WHAT IT READS IS OF BULK AT MOST 1048576: true; the input reads as it did. -/
def fnExactIsTameUptoRow : OpenClaim := { program := "ytjipalcceflkfaa", sum := "7d0b1a393764e207381572d374de7a2c4bc9b447f6689d85fafb546513b6c88c", func := "loop.example/g01000/laws.FnExactIsTame", spec := "fnExactIsTame", unfollowed := true, recurses := true, apart := false, narrowed := true }
def FnExactIsTameUptoSaid : Prop := fnExactIsTameUptoRow.holds Try.pinned (OpenSpec.upto fnExactIsTameSpec)

/-- 'laws.FnExactReducePolynomial', WHERE WHAT IT READS IS OF BULK AT MOST 1048576: true; the input reads as it did. -/
def fnExactReducePolynomialUptoRow : OpenClaim := { program := "ytjipalcceflkfaa", sum := "7d0b1a393764e207381572d374de7a2c4bc9b447f6689d85fafb546513b6c88c", func := "loop.example/g01000/laws.FnExactReducePolynomial", spec := "fnExactReducePolynomial", unfollowed := true, recurses := true, apart := false, narrowed := true }
def FnExactReducePolynomialUptoSaid : Prop := fnExactReducePolynomialUptoRow.holds Try.pinned (OpenSpec.upto fnExactReducePolynomialSpec)

/-- 'laws.FnExactRootsModular', WHERE WHAT IT READS IS OF BULK AT MOST 1048576: true; the input reads as it did. -/
def fnExactRootsModularUptoRow : OpenClaim := { program := "ytjipalcceflkfaa", sum := "7d0b1a393764e207381572d374de7a2c4bc9b447f6689d85fafb546513b6c88c", func := "loop.example/g01000/laws.FnExactRootsModular", spec := "fnExactRootsModular", unfollowed := true, recurses := true, apart := false, narrowed := true }
def FnExactRootsModularUptoSaid : Prop := fnExactRootsModularUptoRow.holds Try.pinned (OpenSpec.upto fnExactRootsModularSpec)

/-- 'laws.FnExactDerivativeModular', WHERE WHAT IT READS IS OF BULK AT MOST 1048576: true; the input reads as it did. -/
def fnExactDerivativeModularUptoRow : OpenClaim := { program := "ytjipalcceflkfaa", sum := "7d0b1a393764e207381572d374de7a2c4bc9b447f6689d85fafb546513b6c88c", func := "loop.example/g01000/laws.FnExactDerivativeModular", spec := "fnExactDerivativeModular", unfollowed := true, recurses := true, apart := false, narrowed := true }
def FnExactDerivativeModularUptoSaid : Prop := fnExactDerivativeModularUptoRow.holds Try.pinned (OpenSpec.upto fnExactDerivativeModularSpec)

/-- 'laws.FnExactPowerSums', WHERE WHAT IT READS IS OF BULK AT MOST 1048576: true; the input reads as it did. -/
def fnExactPowerSumsUptoRow : OpenClaim := { program := "ytjipalcceflkfaa", sum := "7d0b1a393764e207381572d374de7a2c4bc9b447f6689d85fafb546513b6c88c", func := "loop.example/g01000/laws.FnExactPowerSums", spec := "fnExactPowerSums", unfollowed := true, recurses := true, apart := false, narrowed := true }
def FnExactPowerSumsUptoSaid : Prop := fnExactPowerSumsUptoRow.holds Try.pinned (OpenSpec.upto fnExactPowerSumsSpec)

/-- 'laws.FnExactSylvesterMatrix', WHERE WHAT IT READS IS OF BULK AT MOST 1048576: true; the input reads as it did. -/
def fnExactSylvesterMatrixUptoRow : OpenClaim := { program := "ytjipalcceflkfaa", sum := "7d0b1a393764e207381572d374de7a2c4bc9b447f6689d85fafb546513b6c88c", func := "loop.example/g01000/laws.FnExactSylvesterMatrix", spec := "fnExactSylvesterMatrix", unfollowed := true, recurses := true, apart := false, narrowed := true }
def FnExactSylvesterMatrixUptoSaid : Prop := fnExactSylvesterMatrixUptoRow.holds Try.pinned (OpenSpec.upto fnExactSylvesterMatrixSpec)

/-- 'laws.FnExactJoinSlopes', WHERE WHAT IT READS IS OF BULK AT MOST 1048576: true; the input reads as it did. -/
def fnExactJoinSlopesUptoRow : OpenClaim := { program := "ytjipalcceflkfaa", sum := "7d0b1a393764e207381572d374de7a2c4bc9b447f6689d85fafb546513b6c88c", func := "loop.example/g01000/laws.FnExactJoinSlopes", spec := "fnExactJoinSlopes", apart := false, narrowed := true }
def FnExactJoinSlopesUptoSaid : Prop := fnExactJoinSlopesUptoRow.holds Try.pinned (OpenSpec.upto fnExactJoinSlopesSpec)

/-- 'laws.FnCommon', WHERE WHAT IT READS IS OF BULK AT MOST 1048576: true; the input reads as it did. -/
def fnCommonUptoRow : OpenClaim := { program := "ytjipalcceflkfaa", sum := "7d0b1a393764e207381572d374de7a2c4bc9b447f6689d85fafb546513b6c88c", func := "loop.example/g01000/laws.FnCommon", spec := "fnCommon", apart := false, narrowed := true }
def FnCommonUptoSaid : Prop := fnCommonUptoRow.holds Try.pinned (OpenSpec.upto fnCommonSpec)

end Rows
end Go.Proofs.Ytjipalcceflkfaa
