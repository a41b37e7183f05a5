/-
  No cell of these rows narrows 'for every input' (looked for: loops, veiled, ifaces, maps, wideKeys, modest, calm, conditions, laid).
  DERIVED. THE GIVEN ROWS OF THIS SEAT. 12 by the template 'for every input the law returns true; each argument reads behind the call as it read before'; 0 by the template 'total and deterministic' (their statements: YthnnihjiojhbiaaTotals.lean).
  GIVEN WITH THE SEED: the statements are not yours to turn. If you find one false, say at which input.
  Laid BY PROGRAM, IN A SANDBOX (cutbox-rows.mjs): the forced cells as the released guide's own fill.sh prints them over the translation 7790457a16769f9f… (all of the seat's roots in one cut). By AI agents, Wed Nov 11 2026. No macro, syntax, notation, axiom, sorry.
-/
import Derived.Test.YthnnihjiojhbiaaChecked
import GoSem.Claim
import GoSem.ClaimJoined
import GoSem.ClaimMapViews
import Derived.JoinedTies
import Derived.KernelRfl
namespace Go.Proofs.Ythnnihjiojhbiaa
/- THE CELL 'sum', in the pinned program and in every row, IS THE sha256 OF THE DUMP (.gsa) THAT YthnnihjiojhbiaaProg.lean LOADS. Nothing in Lean hashes anything: it is a label: what it is worth is what the hold of that sum in a sandbox is worth. -/
noncomputable def Try.pinned : Pinned := { name := "ythnnihjiojhbiaa", sum := "7790457a16769f9f77580fcb017cd861cb3962158182819b9169958b5f9ee110", checked := Try.checked }
namespace Rows
def none {H : Type} : Left H := { results := [], args := [] }

/-- 'laws.FnExactIsModular': WHATEVER THE INPUT: true; the input reads as it did. -/
def fnExactIsModularSpec : ChangeSpec := { name := "fnExactIsModular", fn := fun _ => fun
  | [d1, d2] => { results := [.lit (.bool true)], args := [d1, d2] }
  | _ => none }
def fnExactIsModularRow : OpenClaim := { program := "ythnnihjiojhbiaa", sum := "7790457a16769f9f77580fcb017cd861cb3962158182819b9169958b5f9ee110", func := "loop.example/g01000/laws.FnExactIsModular", spec := "fnExactIsModular", unfollowed := true, recurses := true, apart := false }
def FnExactIsModularSaid : Prop := fnExactIsModularRow.holds Try.pinned (OpenSpec.ofChange fnExactIsModularSpec)

/-- ITS FALSE NEIGHBOUR: 'it returns false'. Refute it at one input. -/
def fnExactIsModularWrong : ChangeSpec := { name := "fnExactIsModular", fn := fun _ => fun
  | [d1, d2] => { results := [.lit (.bool false)], args := [d1, d2] }
  | _ => none }
def FnExactIsModularWrongFalsely : Prop := fnExactIsModularRow.holds Try.pinned (OpenSpec.ofChange fnExactIsModularWrong)

/-- 'laws.FnExactEisensteinPolynomial': WHATEVER THE INPUT: true; the input reads as it did. -/
def fnExactEisensteinPolynomialSpec : ChangeSpec := { name := "fnExactEisensteinPolynomial", fn := fun _ => fun
  | [d1, d2, d3] => { results := [.lit (.bool true)], args := [d1, d2, d3] }
  | _ => none }
def fnExactEisensteinPolynomialRow : OpenClaim := { program := "ythnnihjiojhbiaa", sum := "7790457a16769f9f77580fcb017cd861cb3962158182819b9169958b5f9ee110", func := "loop.example/g01000/laws.FnExactEisensteinPolynomial", spec := "fnExactEisensteinPolynomial", apart := false }
def FnExactEisensteinPolynomialSaid : Prop := fnExactEisensteinPolynomialRow.holds Try.pinned (OpenSpec.ofChange fnExactEisensteinPolynomialSpec)

/-- ITS FALSE NEIGHBOUR: 'it returns false'. Refute it at one input. -/
def fnExactEisensteinPolynomialWrong : ChangeSpec := { name := "fnExactEisensteinPolynomial", fn := fun _ => fun
  | [d1, d2, d3] => { results := [.lit (.bool false)], args := [d1, d2, d3] }
  | _ => none }
def FnExactEisensteinPolynomialWrongFalsely : Prop := fnExactEisensteinPolynomialRow.holds Try.pinned (OpenSpec.ofChange fnExactEisensteinPolynomialWrong)

/-- 'laws.FnExactEvaluateAt': WHATEVER THE INPUT: true; the input reads as it did. -/
def fnExactEvaluateAtSpec : ChangeSpec := { name := "fnExactEvaluateAt", fn := fun _ => fun
  | [d1, d2] => { results := [.lit (.bool true)], args := [d1, d2] }
  | _ => none }
def fnExactEvaluateAtRow : OpenClaim := { program := "ythnnihjiojhbiaa", sum := "7790457a16769f9f77580fcb017cd861cb3962158182819b9169958b5f9ee110", func := "loop.example/g01000/laws.FnExactEvaluateAt", spec := "fnExactEvaluateAt", unfollowed := true, recurses := true, apart := false }
def FnExactEvaluateAtSaid : Prop := fnExactEvaluateAtRow.holds Try.pinned (OpenSpec.ofChange fnExactEvaluateAtSpec)

/-- ITS FALSE NEIGHBOUR: 'it returns false'. Refute it at one input. -/
def fnExactEvaluateAtWrong : ChangeSpec := { name := "fnExactEvaluateAt", fn := fun _ => fun
  | [d1, d2] => { results := [.lit (.bool false)], args := [d1, d2] }
  | _ => none }
def FnExactEvaluateAtWrongFalsely : Prop := fnExactEvaluateAtRow.holds Try.pinned (OpenSpec.ofChange fnExactEvaluateAtWrong)

/-- 'laws.FnExactContentOf': WHATEVER THE INPUT: true; the input reads as it did. -/
def fnExactContentOfSpec : ChangeSpec := { name := "fnExactContentOf", fn := fun _ => fun
  | [d] => { results := [.lit (.bool true)], args := [d] }
  | _ => none }
def fnExactContentOfRow : OpenClaim := { program := "ythnnihjiojhbiaa", sum := "7790457a16769f9f77580fcb017cd861cb3962158182819b9169958b5f9ee110", func := "loop.example/g01000/laws.FnExactContentOf", spec := "fnExactContentOf", unfollowed := true, recurses := true, apart := false }
def FnExactContentOfSaid : Prop := fnExactContentOfRow.holds Try.pinned (OpenSpec.ofChange fnExactContentOfSpec)

/-- ITS FALSE NEIGHBOUR: 'it returns false'. Refute it at one input. -/
def fnExactContentOfWrong : ChangeSpec := { name := "fnExactContentOf", fn := fun _ => fun
  | [d] => { results := [.lit (.bool false)], args := [d] }
  | _ => none }
def FnExactContentOfWrongFalsely : Prop := fnExactContentOfRow.holds Try.pinned (OpenSpec.ofChange fnExactContentOfWrong)

/-- 'laws.FnExactRationalValuation': WHATEVER THE INPUT: true; the input reads as it did. -/
def fnExactRationalValuationSpec : ChangeSpec := { name := "fnExactRationalValuation", fn := fun _ => fun
  | [d1, d2] => { results := [.lit (.bool true)], args := [d1, d2] }
  | _ => none }
def fnExactRationalValuationRow : OpenClaim := { program := "ythnnihjiojhbiaa", sum := "7790457a16769f9f77580fcb017cd861cb3962158182819b9169958b5f9ee110", func := "loop.example/g01000/laws.FnExactRationalValuation", spec := "fnExactRationalValuation", apart := false }
def FnExactRationalValuationSaid : Prop := fnExactRationalValuationRow.holds Try.pinned (OpenSpec.ofChange fnExactRationalValuationSpec)

/-- ITS FALSE NEIGHBOUR: 'it returns false'. Refute it at one input. -/
def fnExactRationalValuationWrong : ChangeSpec := { name := "fnExactRationalValuation", fn := fun _ => fun
  | [d1, d2] => { results := [.lit (.bool false)], args := [d1, d2] }
  | _ => none }
def FnExactRationalValuationWrongFalsely : Prop := fnExactRationalValuationRow.holds Try.pinned (OpenSpec.ofChange fnExactRationalValuationWrong)

/-- 'laws.FnExactFactorOf': WHATEVER THE INPUT: true; the input reads as it did. -/
def fnExactFactorOfSpec : ChangeSpec := { name := "fnExactFactorOf", fn := fun _ => fun
  | [d] => { results := [.lit (.bool true)], args := [d] }
  | _ => none }
def fnExactFactorOfRow : OpenClaim := { program := "ythnnihjiojhbiaa", sum := "7790457a16769f9f77580fcb017cd861cb3962158182819b9169958b5f9ee110", func := "loop.example/g01000/laws.FnExactFactorOf", spec := "fnExactFactorOf", apart := false }
def FnExactFactorOfSaid : Prop := fnExactFactorOfRow.holds Try.pinned (OpenSpec.ofChange fnExactFactorOfSpec)

/-- ITS FALSE NEIGHBOUR: 'it returns false'. Refute it at one input. -/
def fnExactFactorOfWrong : ChangeSpec := { name := "fnExactFactorOf", fn := fun _ => fun
  | [d] => { results := [.lit (.bool false)], args := [d] }
  | _ => none }
def FnExactFactorOfWrongFalsely : Prop := fnExactFactorOfRow.holds Try.pinned (OpenSpec.ofChange fnExactFactorOfWrong)

/-- 'laws.FnExactAddRationals': WHATEVER THE INPUT: true; the input reads as it did. -/
def fnExactAddRationalsSpec : ChangeSpec := { name := "fnExactAddRationals", fn := fun _ => fun
  | [d1, d2] => { results := [.lit (.bool true)], args := [d1, d2] }
  | _ => none }
def fnExactAddRationalsRow : OpenClaim := { program := "ythnnihjiojhbiaa", sum := "7790457a16769f9f77580fcb017cd861cb3962158182819b9169958b5f9ee110", func := "loop.example/g01000/laws.FnExactAddRationals", spec := "fnExactAddRationals", apart := false }
def FnExactAddRationalsSaid : Prop := fnExactAddRationalsRow.holds Try.pinned (OpenSpec.ofChange fnExactAddRationalsSpec)

/-- ITS FALSE NEIGHBOUR: 'it returns false'. Refute it at one input. -/
def fnExactAddRationalsWrong : ChangeSpec := { name := "fnExactAddRationals", fn := fun _ => fun
  | [d1, d2] => { results := [.lit (.bool false)], args := [d1, d2] }
  | _ => none }
def FnExactAddRationalsWrongFalsely : Prop := fnExactAddRationalsRow.holds Try.pinned (OpenSpec.ofChange fnExactAddRationalsWrong)

/-- 'laws.FnExactMultiplyRationals': WHATEVER THE INPUT: true; the input reads as it did. -/
def fnExactMultiplyRationalsSpec : ChangeSpec := { name := "fnExactMultiplyRationals", fn := fun _ => fun
  | [d1, d2] => { results := [.lit (.bool true)], args := [d1, d2] }
  | _ => none }
def fnExactMultiplyRationalsRow : OpenClaim := { program := "ythnnihjiojhbiaa", sum := "7790457a16769f9f77580fcb017cd861cb3962158182819b9169958b5f9ee110", func := "loop.example/g01000/laws.FnExactMultiplyRationals", spec := "fnExactMultiplyRationals", apart := false }
def FnExactMultiplyRationalsSaid : Prop := fnExactMultiplyRationalsRow.holds Try.pinned (OpenSpec.ofChange fnExactMultiplyRationalsSpec)

/-- ITS FALSE NEIGHBOUR: 'it returns false'. Refute it at one input. -/
def fnExactMultiplyRationalsWrong : ChangeSpec := { name := "fnExactMultiplyRationals", fn := fun _ => fun
  | [d1, d2] => { results := [.lit (.bool false)], args := [d1, d2] }
  | _ => none }
def FnExactMultiplyRationalsWrongFalsely : Prop := fnExactMultiplyRationalsRow.holds Try.pinned (OpenSpec.ofChange fnExactMultiplyRationalsWrong)

/-- 'laws.FnExactDerivativeOf': WHATEVER THE INPUT: true; the input reads as it did. -/
def fnExactDerivativeOfSpec : ChangeSpec := { name := "fnExactDerivativeOf", fn := fun _ => fun
  | [d] => { results := [.lit (.bool true)], args := [d] }
  | _ => none }
def fnExactDerivativeOfRow : OpenClaim := { program := "ythnnihjiojhbiaa", sum := "7790457a16769f9f77580fcb017cd861cb3962158182819b9169958b5f9ee110", func := "loop.example/g01000/laws.FnExactDerivativeOf", spec := "fnExactDerivativeOf", unfollowed := true, recurses := true, apart := false }
def FnExactDerivativeOfSaid : Prop := fnExactDerivativeOfRow.holds Try.pinned (OpenSpec.ofChange fnExactDerivativeOfSpec)

/-- ITS FALSE NEIGHBOUR: 'it returns false'. Refute it at one input. -/
def fnExactDerivativeOfWrong : ChangeSpec := { name := "fnExactDerivativeOf", fn := fun _ => fun
  | [d] => { results := [.lit (.bool false)], args := [d] }
  | _ => none }
def FnExactDerivativeOfWrongFalsely : Prop := fnExactDerivativeOfRow.holds Try.pinned (OpenSpec.ofChange fnExactDerivativeOfWrong)

/-- 'laws.FnExactReversePolynomial': WHATEVER THE INPUT: true; the input reads as it did. -/
def fnExactReversePolynomialSpec : ChangeSpec := { name := "fnExactReversePolynomial", fn := fun _ => fun
  | [d] => { results := [.lit (.bool true)], args := [d] }
  | _ => none }
def fnExactReversePolynomialRow : OpenClaim := { program := "ythnnihjiojhbiaa", sum := "7790457a16769f9f77580fcb017cd861cb3962158182819b9169958b5f9ee110", func := "loop.example/g01000/laws.FnExactReversePolynomial", spec := "fnExactReversePolynomial", unfollowed := true, recurses := true, apart := false }
def FnExactReversePolynomialSaid : Prop := fnExactReversePolynomialRow.holds Try.pinned (OpenSpec.ofChange fnExactReversePolynomialSpec)

/-- ITS FALSE NEIGHBOUR: 'it returns false'. Refute it at one input. -/
def fnExactReversePolynomialWrong : ChangeSpec := { name := "fnExactReversePolynomial", fn := fun _ => fun
  | [d] => { results := [.lit (.bool false)], args := [d] }
  | _ => none }
def FnExactReversePolynomialWrongFalsely : Prop := fnExactReversePolynomialRow.holds Try.pinned (OpenSpec.ofChange fnExactReversePolynomialWrong)

/-- 'laws.FnExactAddPolynomials': WHATEVER THE INPUT: true; the input reads as it did. -/
def fnExactAddPolynomialsSpec : ChangeSpec := { name := "fnExactAddPolynomials", fn := fun _ => fun
  | [d1, d2] => { results := [.lit (.bool true)], args := [d1, d2] }
  | _ => none }
def fnExactAddPolynomialsRow : OpenClaim := { program := "ythnnihjiojhbiaa", sum := "7790457a16769f9f77580fcb017cd861cb3962158182819b9169958b5f9ee110", func := "loop.example/g01000/laws.FnExactAddPolynomials", spec := "fnExactAddPolynomials", unfollowed := true, recurses := true, apart := false }
def FnExactAddPolynomialsSaid : Prop := fnExactAddPolynomialsRow.holds Try.pinned (OpenSpec.ofChange fnExactAddPolynomialsSpec)

/-- ITS FALSE NEIGHBOUR: 'it returns false'. Refute it at one input. -/
def fnExactAddPolynomialsWrong : ChangeSpec := { name := "fnExactAddPolynomials", fn := fun _ => fun
  | [d1, d2] => { results := [.lit (.bool false)], args := [d1, d2] }
  | _ => none }
def FnExactAddPolynomialsWrongFalsely : Prop := fnExactAddPolynomialsRow.holds Try.pinned (OpenSpec.ofChange fnExactAddPolynomialsWrong)

/-- 'laws.FnExactMultiplyPolynomials': WHATEVER THE INPUT: true; the input reads as it did. -/
def fnExactMultiplyPolynomialsSpec : ChangeSpec := { name := "fnExactMultiplyPolynomials", fn := fun _ => fun
  | [d1, d2] => { results := [.lit (.bool true)], args := [d1, d2] }
  | _ => none }
def fnExactMultiplyPolynomialsRow : OpenClaim := { program := "ythnnihjiojhbiaa", sum := "7790457a16769f9f77580fcb017cd861cb3962158182819b9169958b5f9ee110", func := "loop.example/g01000/laws.FnExactMultiplyPolynomials", spec := "fnExactMultiplyPolynomials", unfollowed := true, recurses := true, apart := false }
def FnExactMultiplyPolynomialsSaid : Prop := fnExactMultiplyPolynomialsRow.holds Try.pinned (OpenSpec.ofChange fnExactMultiplyPolynomialsSpec)

/-- ITS FALSE NEIGHBOUR: 'it returns false'. Refute it at one input. -/
def fnExactMultiplyPolynomialsWrong : ChangeSpec := { name := "fnExactMultiplyPolynomials", fn := fun _ => fun
  | [d1, d2] => { results := [.lit (.bool false)], args := [d1, d2] }
  | _ => none }
def FnExactMultiplyPolynomialsWrongFalsely : Prop := fnExactMultiplyPolynomialsRow.holds Try.pinned (OpenSpec.ofChange fnExactMultiplyPolynomialsWrong)

/- THE SECOND FORM. 'bulk': how many values and letters a reading holds, each counted each time it is reached (what is shared counts as often as it is met; a slice's spare places count too). A statement '..UptoSaid' is the law's where the arguments, and the package variables that the reading takes, are together of bulk at most 1048576: NARROWER than '..Said'. Prove '..Said' where nothing that the law and all that it calls make is longer than what came in: it says more and counts as full. Else prove '..UptoSaid'. A law counts once. -/
mutual
def uptoBulk {H : Type} : DataW H → Nat
  | .lit (.string bytes) => bytes.length + 1
  | .lit _ => 1
  | .nil => 1
  | .ptr d => uptoBulk d + 1
  | .slice elems spare => uptoBulkAll elems + uptoBulkAll spare + 1
  | .agg parts => uptoBulkAll parts + 1
  | .iface _ d => uptoBulk d + 1
  | .map entries => uptoBulkEntries entries + 1
  | .held _ => 1
def uptoBulkAll {H : Type} : List (DataW H) → Nat
  | [] => 0
  | d :: r => uptoBulk d + uptoBulkAll r
def uptoBulkEntries {H : Type} : List (Lit × DataW H) → Nat
  | [] => 0
  | x :: r => uptoBulkEntry x + uptoBulkEntries r
def uptoBulkEntry {H : Type} : Lit × DataW H → Nat
  | (.string bytes, d) => bytes.length + uptoBulk d + 1
  | (_, d) => uptoBulk d + 1
 end
def uptoSmall : (H : Type) → List (DataW H) → Bool := fun _ ds => decide (uptoBulkAll ds ≤ 1048576)
def OpenSpec.upto (s : _root_.Go.ChangeSpec) : _root_.Go.OpenSpec := { _root_.Go.OpenSpec.ofChange s with cond := some uptoSmall }

/-- 'laws.FnExactIsModular', WHERE WHAT IT READS IS OF BULK AT MOST 1048576: true; the input reads as it did. -/
def fnExactIsModularUptoRow : OpenClaim := { program := "ythnnihjiojhbiaa", sum := "7790457a16769f9f77580fcb017cd861cb3962158182819b9169958b5f9ee110", func := "loop.example/g01000/laws.FnExactIsModular", spec := "fnExactIsModular", unfollowed := true, recurses := true, apart := false, narrowed := true }
def FnExactIsModularUptoSaid : Prop := fnExactIsModularUptoRow.holds Try.pinned (OpenSpec.upto fnExactIsModularSpec)

/-- 'laws.FnExactEisensteinPolynomial', WHERE WHAT IT READS IS OF BULK AT MOST 1048576: true; the input reads as it did. -/
def fnExactEisensteinPolynomialUptoRow : OpenClaim := { program := "ythnnihjiojhbiaa", sum := "7790457a16769f9f77580fcb017cd861cb3962158182819b9169958b5f9ee110", func := "loop.example/g01000/laws.FnExactEisensteinPolynomial", spec := "fnExactEisensteinPolynomial", apart := false, narrowed := true }
def FnExactEisensteinPolynomialUptoSaid : Prop := fnExactEisensteinPolynomialUptoRow.holds Try.pinned (OpenSpec.upto fnExactEisensteinPolynomialSpec)

/-- 'laws.FnExactEvaluateAt', WHERE WHAT IT READS IS OF BULK AT MOST 1048576: true; the input reads as it did. -/
def fnExactEvaluateAtUptoRow : OpenClaim := { program := "ythnnihjiojhbiaa", sum := "7790457a16769f9f77580fcb017cd861cb3962158182819b9169958b5f9ee110", func := "loop.example/g01000/laws.FnExactEvaluateAt", spec := "fnExactEvaluateAt", unfollowed := true, recurses := true, apart := false, narrowed := true }
def FnExactEvaluateAtUptoSaid : Prop := fnExactEvaluateAtUptoRow.holds Try.pinned (OpenSpec.upto fnExactEvaluateAtSpec)

/-- 'laws.FnExactContentOf', WHERE WHAT IT READS IS OF BULK AT MOST 1048576: true; the input reads as it did. -/
def fnExactContentOfUptoRow : OpenClaim := { program := "ythnnihjiojhbiaa", sum := "7790457a16769f9f77580fcb017cd861cb3962158182819b9169958b5f9ee110", func := "loop.example/g01000/laws.FnExactContentOf", spec := "fnExactContentOf", unfollowed := true, recurses := true, apart := false, narrowed := true }
def FnExactContentOfUptoSaid : Prop := fnExactContentOfUptoRow.holds Try.pinned (OpenSpec.upto fnExactContentOfSpec)

/-- 'laws.FnExactRationalValuation', WHERE WHAT IT READS IS OF BULK AT MOST 1048576: true; the input reads as it did. -/
def fnExactRationalValuationUptoRow : OpenClaim := { program := "ythnnihjiojhbiaa", sum := "7790457a16769f9f77580fcb017cd861cb3962158182819b9169958b5f9ee110", func := "loop.example/g01000/laws.FnExactRationalValuation", spec := "fnExactRationalValuation", apart := false, narrowed := true }
def FnExactRationalValuationUptoSaid : Prop := fnExactRationalValuationUptoRow.holds Try.pinned (OpenSpec.upto fnExactRationalValuationSpec)

/-- 'laws.FnExactFactorOf', WHERE WHAT IT READS IS OF BULK AT MOST 1048576: true; the input reads as it did. -/
def fnExactFactorOfUptoRow : OpenClaim := { program := "ythnnihjiojhbiaa", sum := "7790457a16769f9f77580fcb017cd861cb3962158182819b9169958b5f9ee110", func := "loop.example/g01000/laws.FnExactFactorOf", spec := "fnExactFactorOf", apart := false, narrowed := true }
def FnExactFactorOfUptoSaid : Prop := fnExactFactorOfUptoRow.holds Try.pinned (OpenSpec.upto fnExactFactorOfSpec)

/-- 'laws.FnExactAddRationals', WHERE WHAT IT READS IS OF BULK AT MOST 1048576: true; the input reads as it did. -/
def fnExactAddRationalsUptoRow : OpenClaim := { program := "ythnnihjiojhbiaa", sum := "7790457a16769f9f77580fcb017cd861cb3962158182819b9169958b5f9ee110", func := "loop.example/g01000/laws.FnExactAddRationals", spec := "fnExactAddRationals", apart := false, narrowed := true }
def FnExactAddRationalsUptoSaid : Prop := fnExactAddRationalsUptoRow.holds Try.pinned (OpenSpec.upto fnExactAddRationalsSpec)

/-- 'laws.FnExactMultiplyRationals', WHERE WHAT IT READS IS OF BULK AT MOST 1048576: true; the input reads as it did. -/
def fnExactMultiplyRationalsUptoRow : OpenClaim := { program := "ythnnihjiojhbiaa", sum := "7790457a16769f9f77580fcb017cd861cb3962158182819b9169958b5f9ee110", func := "loop.example/g01000/laws.FnExactMultiplyRationals", spec := "fnExactMultiplyRationals", apart := false, narrowed := true }
def FnExactMultiplyRationalsUptoSaid : Prop := fnExactMultiplyRationalsUptoRow.holds Try.pinned (OpenSpec.upto fnExactMultiplyRationalsSpec)

/-- 'laws.FnExactDerivativeOf', WHERE WHAT IT READS IS OF BULK AT MOST 1048576: true; the input reads as it did. -/
def fnExactDerivativeOfUptoRow : OpenClaim := { program := "ythnnihjiojhbiaa", sum := "7790457a16769f9f77580fcb017cd861cb3962158182819b9169958b5f9ee110", func := "loop.example/g01000/laws.FnExactDerivativeOf", spec := "fnExactDerivativeOf", unfollowed := true, recurses := true, apart := false, narrowed := true }
def FnExactDerivativeOfUptoSaid : Prop := fnExactDerivativeOfUptoRow.holds Try.pinned (OpenSpec.upto fnExactDerivativeOfSpec)

/-- 'laws.FnExactReversePolynomial', WHERE WHAT IT READS IS OF BULK AT MOST 1048576: true; the input reads as it did. -/
def fnExactReversePolynomialUptoRow : OpenClaim := { program := "ythnnihjiojhbiaa", sum := "7790457a16769f9f77580fcb017cd861cb3962158182819b9169958b5f9ee110", func := "loop.example/g01000/laws.FnExactReversePolynomial", spec := "fnExactReversePolynomial", unfollowed := true, recurses := true, apart := false, narrowed := true }
def FnExactReversePolynomialUptoSaid : Prop := fnExactReversePolynomialUptoRow.holds Try.pinned (OpenSpec.upto fnExactReversePolynomialSpec)

/-- 'laws.FnExactAddPolynomials', WHERE WHAT IT READS IS OF BULK AT MOST 1048576: true; the input reads as it did. -/
def fnExactAddPolynomialsUptoRow : OpenClaim := { program := "ythnnihjiojhbiaa", sum := "7790457a16769f9f77580fcb017cd861cb3962158182819b9169958b5f9ee110", func := "loop.example/g01000/laws.FnExactAddPolynomials", spec := "fnExactAddPolynomials", unfollowed := true, recurses := true, apart := false, narrowed := true }
def FnExactAddPolynomialsUptoSaid : Prop := fnExactAddPolynomialsUptoRow.holds Try.pinned (OpenSpec.upto fnExactAddPolynomialsSpec)

/-- 'laws.FnExactMultiplyPolynomials', WHERE WHAT IT READS IS OF BULK AT MOST 1048576: true; the input reads as it did. -/
def fnExactMultiplyPolynomialsUptoRow : OpenClaim := { program := "ythnnihjiojhbiaa", sum := "7790457a16769f9f77580fcb017cd861cb3962158182819b9169958b5f9ee110", func := "loop.example/g01000/laws.FnExactMultiplyPolynomials", spec := "fnExactMultiplyPolynomials", unfollowed := true, recurses := true, apart := false, narrowed := true }
def FnExactMultiplyPolynomialsUptoSaid : Prop := fnExactMultiplyPolynomialsUptoRow.holds Try.pinned (OpenSpec.upto fnExactMultiplyPolynomialsSpec)

end Rows
end Go.Proofs.Ythnnihjiojhbiaa
