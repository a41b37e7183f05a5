/-
  No cell of these rows narrows 'for every input' (looked for: loops, veiled, ifaces, maps, wideKeys, modest, calm, conditions, laid).
  DERIVED. THE GIVEN ROWS OF THIS SEAT. 12 by the template 'for every input the law returns true; each argument reads behind the call as it read before'; 0 by the template 'total and deterministic' (their statements: YtdkeonjckkjdhaaTotals.lean).
  GIVEN WITH THE SEED: the statements are not yours to turn. If you find one false, say at which input.
  Laid BY PROGRAM, IN A SANDBOX (cutbox-rows.mjs): the forced cells as the released guide's own fill.sh prints them over the translation 931aa8772ae8a14e… (all of the seat's roots in one cut). By AI agents, Wed Nov 11 2026. No macro, syntax, notation, axiom, sorry.
-/
import Derived.Test.YtdkeonjckkjdhaaChecked
import GoSem.Claim
import GoSem.ClaimJoined
import GoSem.ClaimMapViews
import Derived.JoinedTies
import Derived.KernelRfl
namespace Go.Proofs.Ytdkeonjckkjdhaa
/- THE CELL 'sum', in the pinned program and in every row, IS THE sha256 OF THE DUMP (.gsa) THAT YtdkeonjckkjdhaaProg.lean LOADS. Nothing in Lean hashes anything: it is a label: what it is worth is what the hold of that sum in a sandbox is worth. -/
noncomputable def Try.pinned : Pinned := { name := "ytdkeonjckkjdhaa", sum := "931aa8772ae8a14ef05dbbf1472dac86e9bf6dbabab201d3b751d1ca2018f2fc", checked := Try.checked }
namespace Rows
def none {H : Type} : Left H := { results := [], args := [] }

/-- 'laws.FnExactConstants': WHATEVER THE INPUT: true; the input reads as it did. -/
def fnExactConstantsSpec : ChangeSpec := { name := "fnExactConstants", fn := fun _ => fun
  | [] => { results := [.lit (.bool true)], args := [] }
  | _ => none }
def fnExactConstantsRow : OpenClaim := { program := "ytdkeonjckkjdhaa", sum := "931aa8772ae8a14ef05dbbf1472dac86e9bf6dbabab201d3b751d1ca2018f2fc", func := "loop.example/g01000/laws.FnExactConstants", spec := "fnExactConstants", apart := false }
def FnExactConstantsSaid : Prop := fnExactConstantsRow.holds Try.pinned (OpenSpec.ofChange fnExactConstantsSpec)

/-- ITS FALSE NEIGHBOUR: 'it returns false'. Refute it at one input. -/
def fnExactConstantsWrong : ChangeSpec := { name := "fnExactConstants", fn := fun _ => fun
  | [] => { results := [.lit (.bool false)], args := [] }
  | _ => none }
def FnExactConstantsWrongFalsely : Prop := fnExactConstantsRow.holds Try.pinned (OpenSpec.ofChange fnExactConstantsWrong)

/-- 'laws.FnExactIsPrime': WHATEVER THE INPUT: true; the input reads as it did. -/
def fnExactIsPrimeSpec : ChangeSpec := { name := "fnExactIsPrime", fn := fun _ => fun
  | [d] => { results := [.lit (.bool true)], args := [d] }
  | _ => none }
def fnExactIsPrimeRow : OpenClaim := { program := "ytdkeonjckkjdhaa", sum := "931aa8772ae8a14ef05dbbf1472dac86e9bf6dbabab201d3b751d1ca2018f2fc", func := "loop.example/g01000/laws.FnExactIsPrime", spec := "fnExactIsPrime", apart := false }
def FnExactIsPrimeSaid : Prop := fnExactIsPrimeRow.holds Try.pinned (OpenSpec.ofChange fnExactIsPrimeSpec)

/-- ITS FALSE NEIGHBOUR: 'it returns false'. Refute it at one input. -/
def fnExactIsPrimeWrong : ChangeSpec := { name := "fnExactIsPrime", fn := fun _ => fun
  | [d] => { results := [.lit (.bool false)], args := [d] }
  | _ => none }
def FnExactIsPrimeWrongFalsely : Prop := fnExactIsPrimeRow.holds Try.pinned (OpenSpec.ofChange fnExactIsPrimeWrong)

/-- 'laws.FnExactCommonDivisor': WHATEVER THE INPUT: true; the input reads as it did. -/
def fnExactCommonDivisorSpec : ChangeSpec := { name := "fnExactCommonDivisor", fn := fun _ => fun
  | [d1, d2] => { results := [.lit (.bool true)], args := [d1, d2] }
  | _ => none }
def fnExactCommonDivisorRow : OpenClaim := { program := "ytdkeonjckkjdhaa", sum := "931aa8772ae8a14ef05dbbf1472dac86e9bf6dbabab201d3b751d1ca2018f2fc", func := "loop.example/g01000/laws.FnExactCommonDivisor", spec := "fnExactCommonDivisor", apart := false }
def FnExactCommonDivisorSaid : Prop := fnExactCommonDivisorRow.holds Try.pinned (OpenSpec.ofChange fnExactCommonDivisorSpec)

/-- ITS FALSE NEIGHBOUR: 'it returns false'. Refute it at one input. -/
def fnExactCommonDivisorWrong : ChangeSpec := { name := "fnExactCommonDivisor", fn := fun _ => fun
  | [d1, d2] => { results := [.lit (.bool false)], args := [d1, d2] }
  | _ => none }
def FnExactCommonDivisorWrongFalsely : Prop := fnExactCommonDivisorRow.holds Try.pinned (OpenSpec.ofChange fnExactCommonDivisorWrong)

/-- 'laws.FnExactIsRational': WHATEVER THE INPUT: true; the input reads as it did. -/
def fnExactIsRationalSpec : ChangeSpec := { name := "fnExactIsRational", fn := fun _ => fun
  | [d] => { results := [.lit (.bool true)], args := [d] }
  | _ => none }
def fnExactIsRationalRow : OpenClaim := { program := "ytdkeonjckkjdhaa", sum := "931aa8772ae8a14ef05dbbf1472dac86e9bf6dbabab201d3b751d1ca2018f2fc", func := "loop.example/g01000/laws.FnExactIsRational", spec := "fnExactIsRational", apart := false }
def FnExactIsRationalSaid : Prop := fnExactIsRationalRow.holds Try.pinned (OpenSpec.ofChange fnExactIsRationalSpec)

/-- ITS FALSE NEIGHBOUR: 'it returns false'. Refute it at one input. -/
def fnExactIsRationalWrong : ChangeSpec := { name := "fnExactIsRational", fn := fun _ => fun
  | [d] => { results := [.lit (.bool false)], args := [d] }
  | _ => none }
def FnExactIsRationalWrongFalsely : Prop := fnExactIsRationalRow.holds Try.pinned (OpenSpec.ofChange fnExactIsRationalWrong)

/-- 'laws.FnExactBezout': WHATEVER THE INPUT: true; the input reads as it did. -/
def fnExactBezoutSpec : ChangeSpec := { name := "fnExactBezout", fn := fun _ => fun
  | [d1, d2] => { results := [.lit (.bool true)], args := [d1, d2] }
  | _ => none }
def fnExactBezoutRow : OpenClaim := { program := "ytdkeonjckkjdhaa", sum := "931aa8772ae8a14ef05dbbf1472dac86e9bf6dbabab201d3b751d1ca2018f2fc", func := "loop.example/g01000/laws.FnExactBezout", spec := "fnExactBezout", apart := false }
def FnExactBezoutSaid : Prop := fnExactBezoutRow.holds Try.pinned (OpenSpec.ofChange fnExactBezoutSpec)

/-- ITS FALSE NEIGHBOUR: 'it returns false'. Refute it at one input. -/
def fnExactBezoutWrong : ChangeSpec := { name := "fnExactBezout", fn := fun _ => fun
  | [d1, d2] => { results := [.lit (.bool false)], args := [d1, d2] }
  | _ => none }
def FnExactBezoutWrongFalsely : Prop := fnExactBezoutRow.holds Try.pinned (OpenSpec.ofChange fnExactBezoutWrong)

/-- 'laws.FnExactIsPolynomial': WHATEVER THE INPUT: true; the input reads as it did. -/
def fnExactIsPolynomialSpec : ChangeSpec := { name := "fnExactIsPolynomial", fn := fun _ => fun
  | [d] => { results := [.lit (.bool true)], args := [d] }
  | _ => none }
def fnExactIsPolynomialRow : OpenClaim := { program := "ytdkeonjckkjdhaa", sum := "931aa8772ae8a14ef05dbbf1472dac86e9bf6dbabab201d3b751d1ca2018f2fc", func := "loop.example/g01000/laws.FnExactIsPolynomial", spec := "fnExactIsPolynomial", unfollowed := true, recurses := true, apart := false }
def FnExactIsPolynomialSaid : Prop := fnExactIsPolynomialRow.holds Try.pinned (OpenSpec.ofChange fnExactIsPolynomialSpec)

/-- ITS FALSE NEIGHBOUR: 'it returns false'. Refute it at one input. -/
def fnExactIsPolynomialWrong : ChangeSpec := { name := "fnExactIsPolynomial", fn := fun _ => fun
  | [d] => { results := [.lit (.bool false)], args := [d] }
  | _ => none }
def FnExactIsPolynomialWrongFalsely : Prop := fnExactIsPolynomialRow.holds Try.pinned (OpenSpec.ofChange fnExactIsPolynomialWrong)

/-- 'laws.FnExactIsRing': WHATEVER THE INPUT: true; the input reads as it did. -/
def fnExactIsRingSpec : ChangeSpec := { name := "fnExactIsRing", fn := fun _ => fun
  | [d] => { results := [.lit (.bool true)], args := [d] }
  | _ => none }
def fnExactIsRingRow : OpenClaim := { program := "ytdkeonjckkjdhaa", sum := "931aa8772ae8a14ef05dbbf1472dac86e9bf6dbabab201d3b751d1ca2018f2fc", func := "loop.example/g01000/laws.FnExactIsRing", spec := "fnExactIsRing", apart := false }
def FnExactIsRingSaid : Prop := fnExactIsRingRow.holds Try.pinned (OpenSpec.ofChange fnExactIsRingSpec)

/-- ITS FALSE NEIGHBOUR: 'it returns false'. Refute it at one input. -/
def fnExactIsRingWrong : ChangeSpec := { name := "fnExactIsRing", fn := fun _ => fun
  | [d] => { results := [.lit (.bool false)], args := [d] }
  | _ => none }
def FnExactIsRingWrongFalsely : Prop := fnExactIsRingRow.holds Try.pinned (OpenSpec.ofChange fnExactIsRingWrong)

/-- 'laws.FnExactIsSmall': WHATEVER THE INPUT: true; the input reads as it did. -/
def fnExactIsSmallSpec : ChangeSpec := { name := "fnExactIsSmall", fn := fun _ => fun
  | [d] => { results := [.lit (.bool true)], args := [d] }
  | _ => none }
def fnExactIsSmallRow : OpenClaim := { program := "ytdkeonjckkjdhaa", sum := "931aa8772ae8a14ef05dbbf1472dac86e9bf6dbabab201d3b751d1ca2018f2fc", func := "loop.example/g01000/laws.FnExactIsSmall", spec := "fnExactIsSmall", unfollowed := true, recurses := true, apart := false }
def FnExactIsSmallSaid : Prop := fnExactIsSmallRow.holds Try.pinned (OpenSpec.ofChange fnExactIsSmallSpec)

/-- ITS FALSE NEIGHBOUR: 'it returns false'. Refute it at one input. -/
def fnExactIsSmallWrong : ChangeSpec := { name := "fnExactIsSmall", fn := fun _ => fun
  | [d] => { results := [.lit (.bool false)], args := [d] }
  | _ => none }
def FnExactIsSmallWrongFalsely : Prop := fnExactIsSmallRow.holds Try.pinned (OpenSpec.ofChange fnExactIsSmallWrong)

/-- 'laws.FnExactValuationOf': WHATEVER THE INPUT: true; the input reads as it did. -/
def fnExactValuationOfSpec : ChangeSpec := { name := "fnExactValuationOf", fn := fun _ => fun
  | [d1, d2] => { results := [.lit (.bool true)], args := [d1, d2] }
  | _ => none }
def fnExactValuationOfRow : OpenClaim := { program := "ytdkeonjckkjdhaa", sum := "931aa8772ae8a14ef05dbbf1472dac86e9bf6dbabab201d3b751d1ca2018f2fc", func := "loop.example/g01000/laws.FnExactValuationOf", spec := "fnExactValuationOf", apart := false }
def FnExactValuationOfSaid : Prop := fnExactValuationOfRow.holds Try.pinned (OpenSpec.ofChange fnExactValuationOfSpec)

/-- ITS FALSE NEIGHBOUR: 'it returns false'. Refute it at one input. -/
def fnExactValuationOfWrong : ChangeSpec := { name := "fnExactValuationOf", fn := fun _ => fun
  | [d1, d2] => { results := [.lit (.bool false)], args := [d1, d2] }
  | _ => none }
def FnExactValuationOfWrongFalsely : Prop := fnExactValuationOfRow.holds Try.pinned (OpenSpec.ofChange fnExactValuationOfWrong)

/-- 'laws.FnExactMakeRational': WHATEVER THE INPUT: true; the input reads as it did. -/
def fnExactMakeRationalSpec : ChangeSpec := { name := "fnExactMakeRational", fn := fun _ => fun
  | [d1, d2] => { results := [.lit (.bool true)], args := [d1, d2] }
  | _ => none }
def fnExactMakeRationalRow : OpenClaim := { program := "ytdkeonjckkjdhaa", sum := "931aa8772ae8a14ef05dbbf1472dac86e9bf6dbabab201d3b751d1ca2018f2fc", func := "loop.example/g01000/laws.FnExactMakeRational", spec := "fnExactMakeRational", apart := false }
def FnExactMakeRationalSaid : Prop := fnExactMakeRationalRow.holds Try.pinned (OpenSpec.ofChange fnExactMakeRationalSpec)

/-- ITS FALSE NEIGHBOUR: 'it returns false'. Refute it at one input. -/
def fnExactMakeRationalWrong : ChangeSpec := { name := "fnExactMakeRational", fn := fun _ => fun
  | [d1, d2] => { results := [.lit (.bool false)], args := [d1, d2] }
  | _ => none }
def FnExactMakeRationalWrongFalsely : Prop := fnExactMakeRationalRow.holds Try.pinned (OpenSpec.ofChange fnExactMakeRationalWrong)

/-- 'laws.FnExactIsSquareResidue': WHATEVER THE INPUT: true; the input reads as it did. -/
def fnExactIsSquareResidueSpec : ChangeSpec := { name := "fnExactIsSquareResidue", fn := fun _ => fun
  | [d1, d2] => { results := [.lit (.bool true)], args := [d1, d2] }
  | _ => none }
def fnExactIsSquareResidueRow : OpenClaim := { program := "ytdkeonjckkjdhaa", sum := "931aa8772ae8a14ef05dbbf1472dac86e9bf6dbabab201d3b751d1ca2018f2fc", func := "loop.example/g01000/laws.FnExactIsSquareResidue", spec := "fnExactIsSquareResidue", apart := false }
def FnExactIsSquareResidueSaid : Prop := fnExactIsSquareResidueRow.holds Try.pinned (OpenSpec.ofChange fnExactIsSquareResidueSpec)

/-- ITS FALSE NEIGHBOUR: 'it returns false'. Refute it at one input. -/
def fnExactIsSquareResidueWrong : ChangeSpec := { name := "fnExactIsSquareResidue", fn := fun _ => fun
  | [d1, d2] => { results := [.lit (.bool false)], args := [d1, d2] }
  | _ => none }
def FnExactIsSquareResidueWrongFalsely : Prop := fnExactIsSquareResidueRow.holds Try.pinned (OpenSpec.ofChange fnExactIsSquareResidueWrong)

/-- 'laws.FnExactMoebiusOf': WHATEVER THE INPUT: true; the input reads as it did. -/
def fnExactMoebiusOfSpec : ChangeSpec := { name := "fnExactMoebiusOf", fn := fun _ => fun
  | [d] => { results := [.lit (.bool true)], args := [d] }
  | _ => none }
def fnExactMoebiusOfRow : OpenClaim := { program := "ytdkeonjckkjdhaa", sum := "931aa8772ae8a14ef05dbbf1472dac86e9bf6dbabab201d3b751d1ca2018f2fc", func := "loop.example/g01000/laws.FnExactMoebiusOf", spec := "fnExactMoebiusOf", apart := false }
def FnExactMoebiusOfSaid : Prop := fnExactMoebiusOfRow.holds Try.pinned (OpenSpec.ofChange fnExactMoebiusOfSpec)

/-- ITS FALSE NEIGHBOUR: 'it returns false'. Refute it at one input. -/
def fnExactMoebiusOfWrong : ChangeSpec := { name := "fnExactMoebiusOf", fn := fun _ => fun
  | [d] => { results := [.lit (.bool false)], args := [d] }
  | _ => none }
def FnExactMoebiusOfWrongFalsely : Prop := fnExactMoebiusOfRow.holds Try.pinned (OpenSpec.ofChange fnExactMoebiusOfWrong)

/- THE SECOND FORM. 'bulk': how many values and letters a reading holds, each counted each time it is reached (what is shared counts as often as it is met; a slice's spare places count too). A statement '..UptoSaid' is the law's where the arguments, and the package variables that the reading takes, are together of bulk at most 1048576: NARROWER than '..Said'. Prove '..Said' where nothing that the law and all that it calls make is longer than what came in: it says more and counts as full. Else prove '..UptoSaid'. A law counts once. -/
mutual
def uptoBulk {H : Type} : DataW H → Nat
  | .lit (.string bytes) => bytes.length + 1
  | .lit _ => 1
  | .nil => 1
  | .ptr d => uptoBulk d + 1
  | .slice elems spare => uptoBulkAll elems + uptoBulkAll spare + 1
  | .agg parts => uptoBulkAll parts + 1
  | .iface _ d => uptoBulk d + 1
  | .map entries => uptoBulkEntries entries + 1
  | .held _ => 1
def uptoBulkAll {H : Type} : List (DataW H) → Nat
  | [] => 0
  | d :: r => uptoBulk d + uptoBulkAll r
def uptoBulkEntries {H : Type} : List (Lit × DataW H) → Nat
  | [] => 0
  | x :: r => uptoBulkEntry x + uptoBulkEntries r
def uptoBulkEntry {H : Type} : Lit × DataW H → Nat
  | (.string bytes, d) => bytes.length + uptoBulk d + 1
  | (_, d) => uptoBulk d + 1
 end
def uptoSmall : (H : Type) → List (DataW H) → Bool := fun _ ds => decide (uptoBulkAll ds ≤ 1048576)
def OpenSpec.upto (s : _root_.Go.ChangeSpec) : _root_.Go.OpenSpec := { _root_.Go.OpenSpec.ofChange s with cond := some uptoSmall }

/-- 'laws.FnExactConstants', WHERE WHAT IT READS IS OF BULK AT MOST 1048576: true; the input reads as it did. -/
def fnExactConstantsUptoRow : OpenClaim := { program := "ytdkeonjckkjdhaa", sum := "931aa8772ae8a14ef05dbbf1472dac86e9bf6dbabab201d3b751d1ca2018f2fc", func := "loop.example/g01000/laws.FnExactConstants", spec := "fnExactConstants", apart := false, narrowed := true }
def FnExactConstantsUptoSaid : Prop := fnExactConstantsUptoRow.holds Try.pinned (OpenSpec.upto fnExactConstantsSpec)

/-- 'laws.FnExactIsPrime', WHERE WHAT IT READS IS OF BULK AT MOST 1048576: true; the input reads as it did. -/
def fnExactIsPrimeUptoRow : OpenClaim := { program := "ytdkeonjckkjdhaa", sum := "931aa8772ae8a14ef05dbbf1472dac86e9bf6dbabab201d3b751d1ca2018f2fc", func := "loop.example/g01000/laws.FnExactIsPrime", spec := "fnExactIsPrime", apart := false, narrowed := true }
def FnExactIsPrimeUptoSaid : Prop := fnExactIsPrimeUptoRow.holds Try.pinned (OpenSpec.upto fnExactIsPrimeSpec)

/-- 'laws.FnExactCommonDivisor', WHERE WHAT IT READS IS OF BULK AT MOST 1048576: true; the input reads as it did. -/
def fnExactCommonDivisorUptoRow : OpenClaim := { program := "ytdkeonjckkjdhaa", sum := "931aa8772ae8a14ef05dbbf1472dac86e9bf6dbabab201d3b751d1ca2018f2fc", func := "loop.example/g01000/laws.FnExactCommonDivisor", spec := "fnExactCommonDivisor", apart := false, narrowed := true }
def FnExactCommonDivisorUptoSaid : Prop := fnExactCommonDivisorUptoRow.holds Try.pinned (OpenSpec.upto fnExactCommonDivisorSpec)

/-- 'laws.FnExactIsRational', WHERE WHAT IT READS IS OF BULK AT MOST 1048576: true; the input reads as it did. -/
def fnExactIsRationalUptoRow : OpenClaim := { program := "ytdkeonjckkjdhaa", sum := "931aa8772ae8a14ef05dbbf1472dac86e9bf6dbabab201d3b751d1ca2018f2fc", func := "loop.example/g01000/laws.FnExactIsRational", spec := "fnExactIsRational", apart := false, narrowed := true }
def FnExactIsRationalUptoSaid : Prop := fnExactIsRationalUptoRow.holds Try.pinned (OpenSpec.upto fnExactIsRationalSpec)

/-- 'laws.FnExactBezout', WHERE WHAT IT READS IS OF BULK AT MOST 1048576: true; the input reads as it did. -/
def fnExactBezoutUptoRow : OpenClaim := { program := "ytdkeonjckkjdhaa", sum := "931aa8772ae8a14ef05dbbf1472dac86e9bf6dbabab201d3b751d1ca2018f2fc", func := "loop.example/g01000/laws.FnExactBezout", spec := "fnExactBezout", apart := false, narrowed := true }
def FnExactBezoutUptoSaid : Prop := fnExactBezoutUptoRow.holds Try.pinned (OpenSpec.upto fnExactBezoutSpec)

/-- 'laws.FnExactIsPolynomial', WHERE WHAT IT READS IS OF BULK AT MOST 1048576: true; the input reads as it did. -/
def fnExactIsPolynomialUptoRow : OpenClaim := { program := "ytdkeonjckkjdhaa", sum := "931aa8772ae8a14ef05dbbf1472dac86e9bf6dbabab201d3b751d1ca2018f2fc", func := "loop.example/g01000/laws.FnExactIsPolynomial", spec := "fnExactIsPolynomial", unfollowed := true, recurses := true, apart := false, narrowed := true }
def FnExactIsPolynomialUptoSaid : Prop := fnExactIsPolynomialUptoRow.holds Try.pinned (OpenSpec.upto fnExactIsPolynomialSpec)

/-- 'laws.FnExactIsRing', WHERE WHAT IT READS IS OF BULK AT MOST 1048576: true; the input reads as it did. -/
def fnExactIsRingUptoRow : OpenClaim := { program := "ytdkeonjckkjdhaa", sum := "931aa8772ae8a14ef05dbbf1472dac86e9bf6dbabab201d3b751d1ca2018f2fc", func := "loop.example/g01000/laws.FnExactIsRing", spec := "fnExactIsRing", apart := false, narrowed := true }
def FnExactIsRingUptoSaid : Prop := fnExactIsRingUptoRow.holds Try.pinned (OpenSpec.upto fnExactIsRingSpec)

/-- 'laws.FnExactIsSmall', WHERE WHAT IT READS IS OF BULK AT MOST 1048576: true; the input reads as it did. -/
def fnExactIsSmallUptoRow : OpenClaim := { program := "ytdkeonjckkjdhaa", sum := "931aa8772ae8a14ef05dbbf1472dac86e9bf6dbabab201d3b751d1ca2018f2fc", func := "loop.example/g01000/laws.FnExactIsSmall", spec := "fnExactIsSmall", unfollowed := true, recurses := true, apart := false, narrowed := true }
def FnExactIsSmallUptoSaid : Prop := fnExactIsSmallUptoRow.holds Try.pinned (OpenSpec.upto fnExactIsSmallSpec)

/-- 'laws.FnExactValuationOf', WHERE WHAT IT READS IS OF BULK AT MOST 1048576: true; the input reads as it did. -/
def fnExactValuationOfUptoRow : OpenClaim := { program := "ytdkeonjckkjdhaa", sum := "931aa8772ae8a14ef05dbbf1472dac86e9bf6dbabab201d3b751d1ca2018f2fc", func := "loop.example/g01000/laws.FnExactValuationOf", spec := "fnExactValuationOf", apart := false, narrowed := true }
def FnExactValuationOfUptoSaid : Prop := fnExactValuationOfUptoRow.holds Try.pinned (OpenSpec.upto fnExactValuationOfSpec)

/-- 'laws.FnExactMakeRational', WHERE WHAT IT READS IS OF BULK AT MOST 1048576: true; the input reads as it did. -/
def fnExactMakeRationalUptoRow : OpenClaim := { program := "ytdkeonjckkjdhaa", sum := "931aa8772ae8a14ef05dbbf1472dac86e9bf6dbabab201d3b751d1ca2018f2fc", func := "loop.example/g01000/laws.FnExactMakeRational", spec := "fnExactMakeRational", apart := false, narrowed := true }
def FnExactMakeRationalUptoSaid : Prop := fnExactMakeRationalUptoRow.holds Try.pinned (OpenSpec.upto fnExactMakeRationalSpec)

/-- 'laws.FnExactIsSquareResidue', WHERE WHAT IT READS IS OF BULK AT MOST 1048576: true; the input reads as it did. -/
def fnExactIsSquareResidueUptoRow : OpenClaim := { program := "ytdkeonjckkjdhaa", sum := "931aa8772ae8a14ef05dbbf1472dac86e9bf6dbabab201d3b751d1ca2018f2fc", func := "loop.example/g01000/laws.FnExactIsSquareResidue", spec := "fnExactIsSquareResidue", apart := false, narrowed := true }
def FnExactIsSquareResidueUptoSaid : Prop := fnExactIsSquareResidueUptoRow.holds Try.pinned (OpenSpec.upto fnExactIsSquareResidueSpec)

/-- 'laws.FnExactMoebiusOf', WHERE WHAT IT READS IS OF BULK AT MOST 1048576: true; the input reads as it did. -/
def fnExactMoebiusOfUptoRow : OpenClaim := { program := "ytdkeonjckkjdhaa", sum := "931aa8772ae8a14ef05dbbf1472dac86e9bf6dbabab201d3b751d1ca2018f2fc", func := "loop.example/g01000/laws.FnExactMoebiusOf", spec := "fnExactMoebiusOf", apart := false, narrowed := true }
def FnExactMoebiusOfUptoSaid : Prop := fnExactMoebiusOfUptoRow.holds Try.pinned (OpenSpec.upto fnExactMoebiusOfSpec)

end Rows
end Go.Proofs.Ytdkeonjckkjdhaa
