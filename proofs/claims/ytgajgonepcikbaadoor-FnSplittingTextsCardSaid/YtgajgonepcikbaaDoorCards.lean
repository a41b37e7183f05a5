/-
  DERIVED. GIVEN WITH THE SEED: THE CARDS: each row of YtgajgonepcikbaaDoorRows.lean that lists a variable, with what it lists TIED to the program's text (the seventh form; the later family's looks); each row that meets fmt, with fmt's text TOLD by the authors' own Lean function (tested against real Go, not proved from fmt's source: count such statements apart). THE CARD IS WHAT COUNTS. Prove the row's statement (the work); the ties are given (YtgajgonepcikbaaDoorTie.lean); close each card by the builder's one call (the guide's Derived/Test/ToyasCard.lean, 'card_holds'). Laid BY PROGRAM, IN A SANDBOX (cutbox-door.mjs). By AI agents, Wed Nov 11 2026. No macro, syntax, notation, axiom, sorry.
-/
import Derived.Test.YtgajgonepcikbaaDoorRows
import GoSem.ClaimSeven
namespace Go.Proofs.YtgajgonepcikbaaDoor
namespace Rows

/-- THE TIED CARD OF 'laws.FnExactRationalText'. -/
def fnExactRationalTextCard : Claim7 := { stood := { row := fnExactRationalTextRow, standIns := [], harness := (true, "2f5bcffe171d31bf1f0425a92d798c411519b014b68419071532b2fdbd283f19"), looks := true }, kinds := [], alts := [], laidByText := true, laidKinds := [.data, .data, .data], laidTests := true, laidLooks := .later }
def FnExactRationalTextCardSaid : Prop := Claim7.holds Tryd.pinned (.plain (OpenSpec.ofChange fnExactRationalTextSpec)) fnExactRationalTextCard

/-- THE TIED CARD OF 'laws.FnExactPolynomialText'. -/
def fnExactPolynomialTextCard : Claim7 := { stood := { row := fnExactPolynomialTextRow, standIns := [], harness := (true, "2f5bcffe171d31bf1f0425a92d798c411519b014b68419071532b2fdbd283f19"), looks := true }, kinds := [], alts := [], laidByText := true, laidKinds := [.data, .data, .data], laidTests := true, laidLooks := .later }
def FnExactPolynomialTextCardSaid : Prop := Claim7.holds Tryd.pinned (.plain (OpenSpec.ofChange fnExactPolynomialTextSpec)) fnExactPolynomialTextCard

/-- THE TIED CARD OF 'laws.FnExactPowersText'. -/
def fnExactPowersTextCard : Claim7 := { stood := { row := fnExactPowersTextRow, standIns := [], harness := (true, "2f5bcffe171d31bf1f0425a92d798c411519b014b68419071532b2fdbd283f19"), looks := true }, kinds := [], alts := [], laidByText := true, laidKinds := [.data, .data, .data], laidTests := true, laidLooks := .later }
def FnExactPowersTextCardSaid : Prop := Claim7.holds Tryd.pinned (.plain (OpenSpec.ofChange fnExactPowersTextSpec)) fnExactPowersTextCard

/-- THE TIED CARD OF 'laws.FnExactSplittingText'. -/
def fnExactSplittingTextCard : Claim7 := { stood := { row := fnExactSplittingTextRow, standIns := [], harness := (true, "2f5bcffe171d31bf1f0425a92d798c411519b014b68419071532b2fdbd283f19"), looks := true }, kinds := [], alts := [], laidByText := true, laidKinds := [.data, .data, .data], laidTests := true, laidLooks := .later }
def FnExactSplittingTextCardSaid : Prop := Claim7.holds Tryd.pinned (.plain (OpenSpec.ofChange fnExactSplittingTextSpec)) fnExactSplittingTextCard

/-- THE TIED CARD OF 'laws.FnExactReadRational'. -/
def fnExactReadRationalCard : Claim7 := { stood := { row := fnExactReadRationalRow, standIns := [], harness := (true, "2f5bcffe171d31bf1f0425a92d798c411519b014b68419071532b2fdbd283f19"), looks := true }, kinds := [], alts := [], laidByText := true, laidKinds := [.data, .data, .data, .sentinel, .sentinel], laidTests := true, laidLooks := .later }
def FnExactReadRationalCardSaid : Prop := Claim7.holds Tryd.pinned (.plain (OpenSpec.ofChange fnExactReadRationalSpec)) fnExactReadRationalCard

/-- THE TIED CARD OF 'laws.FnExactReadPowers'. -/
def fnExactReadPowersCard : Claim7 := { stood := { row := fnExactReadPowersRow, standIns := [], harness := (true, "2f5bcffe171d31bf1f0425a92d798c411519b014b68419071532b2fdbd283f19"), looks := true }, kinds := [], alts := [], laidByText := true, laidKinds := [.data, .data, .data, .data, .sentinel, .sentinel, .pinned], laidTests := true, laidLooks := .later }
def FnExactReadPowersCardSaid : Prop := Claim7.holds Tryd.pinned (.plain (OpenSpec.ofChange fnExactReadPowersSpec)) fnExactReadPowersCard

/-- THE TIED CARD OF 'laws.FnExactReadSplitting'. -/
def fnExactReadSplittingCard : Claim7 := { stood := { row := fnExactReadSplittingRow, standIns := [], harness := (true, "2f5bcffe171d31bf1f0425a92d798c411519b014b68419071532b2fdbd283f19"), looks := true }, kinds := [], alts := [], laidByText := true, laidKinds := [.data, .data, .data, .data, .sentinel, .sentinel, .pinned], laidTests := true, laidLooks := .later }
def FnExactReadSplittingCardSaid : Prop := Claim7.holds Tryd.pinned (.plain (OpenSpec.ofChange fnExactReadSplittingSpec)) fnExactReadSplittingCard

/-- THE TIED CARD OF 'laws.FnExactReadPolynomial'. -/
def fnExactReadPolynomialCard : Claim7 := { stood := { row := fnExactReadPolynomialRow, standIns := [], harness := (true, "2f5bcffe171d31bf1f0425a92d798c411519b014b68419071532b2fdbd283f19"), looks := true }, kinds := [], alts := [], laidByText := true, laidKinds := [.data, .data, .data, .data, .sentinel, .sentinel, .pinned], laidTests := true, laidLooks := .later }
def FnExactReadPolynomialCardSaid : Prop := Claim7.holds Tryd.pinned (.plain (OpenSpec.ofChange fnExactReadPolynomialSpec)) fnExactReadPolynomialCard

/-- THE TIED CARD OF 'laws.FnRationalTexts'. -/
def fnRationalTextsCard : Claim7 := { stood := { row := fnRationalTextsRow, standIns := [], harness := (true, "2f5bcffe171d31bf1f0425a92d798c411519b014b68419071532b2fdbd283f19"), looks := true }, kinds := [], alts := [], laidByText := true, laidKinds := [.data, .data, .data, .sentinel, .sentinel], laidTests := true, laidLooks := .later }
def FnRationalTextsCardSaid : Prop := Claim7.holds Tryd.pinned (.plain (OpenSpec.ofChange fnRationalTextsSpec)) fnRationalTextsCard

/-- THE TIED CARD OF 'laws.FnPowerTexts'. -/
def fnPowerTextsCard : Claim7 := { stood := { row := fnPowerTextsRow, standIns := [], harness := (true, "2f5bcffe171d31bf1f0425a92d798c411519b014b68419071532b2fdbd283f19"), looks := true }, kinds := [], alts := [], laidByText := true, laidKinds := [.data, .data, .data, .data, .sentinel, .sentinel, .pinned], laidTests := true, laidLooks := .later }
def FnPowerTextsCardSaid : Prop := Claim7.holds Tryd.pinned (.plain (OpenSpec.ofChange fnPowerTextsSpec)) fnPowerTextsCard

/-- THE TIED CARD OF 'laws.FnPolynomialTexts'. -/
def fnPolynomialTextsCard : Claim7 := { stood := { row := fnPolynomialTextsRow, standIns := [], harness := (true, "2f5bcffe171d31bf1f0425a92d798c411519b014b68419071532b2fdbd283f19"), looks := true }, kinds := [], alts := [], laidByText := true, laidKinds := [.data, .data, .data, .data, .sentinel, .sentinel, .pinned], laidTests := true, laidLooks := .later }
def FnPolynomialTextsCardSaid : Prop := Claim7.holds Tryd.pinned (.plain (OpenSpec.ofChange fnPolynomialTextsSpec)) fnPolynomialTextsCard

/-- THE TIED CARD OF 'laws.FnSplittingTexts'. -/
def fnSplittingTextsCard : Claim7 := { stood := { row := fnSplittingTextsRow, standIns := [], harness := (true, "2f5bcffe171d31bf1f0425a92d798c411519b014b68419071532b2fdbd283f19"), looks := true }, kinds := [], alts := [], laidByText := true, laidKinds := [.data, .data, .data, .data, .sentinel, .sentinel, .pinned], laidTests := true, laidLooks := .later }
def FnSplittingTextsCardSaid : Prop := Claim7.holds Tryd.pinned (.plain (OpenSpec.ofChange fnSplittingTextsSpec)) fnSplittingTextsCard

/-- THE SECOND FORM's CARD OF 'laws.FnExactRationalText'. -/
def fnExactRationalTextUptoCard : Claim7 := { stood := { row := fnExactRationalTextUptoRow, standIns := [], harness := (true, "2f5bcffe171d31bf1f0425a92d798c411519b014b68419071532b2fdbd283f19"), looks := true }, kinds := [], alts := [], laidByText := true, laidKinds := [.data, .data, .data], laidTests := true, laidLooks := .later }
def FnExactRationalTextUptoCardSaid : Prop := Claim7.holds Tryd.pinned (.plain (OpenSpec.upto fnExactRationalTextSpec)) fnExactRationalTextUptoCard

/-- THE SECOND FORM's CARD OF 'laws.FnExactPolynomialText'. -/
def fnExactPolynomialTextUptoCard : Claim7 := { stood := { row := fnExactPolynomialTextUptoRow, standIns := [], harness := (true, "2f5bcffe171d31bf1f0425a92d798c411519b014b68419071532b2fdbd283f19"), looks := true }, kinds := [], alts := [], laidByText := true, laidKinds := [.data, .data, .data], laidTests := true, laidLooks := .later }
def FnExactPolynomialTextUptoCardSaid : Prop := Claim7.holds Tryd.pinned (.plain (OpenSpec.upto fnExactPolynomialTextSpec)) fnExactPolynomialTextUptoCard

/-- THE SECOND FORM's CARD OF 'laws.FnExactPowersText'. -/
def fnExactPowersTextUptoCard : Claim7 := { stood := { row := fnExactPowersTextUptoRow, standIns := [], harness := (true, "2f5bcffe171d31bf1f0425a92d798c411519b014b68419071532b2fdbd283f19"), looks := true }, kinds := [], alts := [], laidByText := true, laidKinds := [.data, .data, .data], laidTests := true, laidLooks := .later }
def FnExactPowersTextUptoCardSaid : Prop := Claim7.holds Tryd.pinned (.plain (OpenSpec.upto fnExactPowersTextSpec)) fnExactPowersTextUptoCard

/-- THE SECOND FORM's CARD OF 'laws.FnExactSplittingText'. -/
def fnExactSplittingTextUptoCard : Claim7 := { stood := { row := fnExactSplittingTextUptoRow, standIns := [], harness := (true, "2f5bcffe171d31bf1f0425a92d798c411519b014b68419071532b2fdbd283f19"), looks := true }, kinds := [], alts := [], laidByText := true, laidKinds := [.data, .data, .data], laidTests := true, laidLooks := .later }
def FnExactSplittingTextUptoCardSaid : Prop := Claim7.holds Tryd.pinned (.plain (OpenSpec.upto fnExactSplittingTextSpec)) fnExactSplittingTextUptoCard

/-- THE SECOND FORM's CARD OF 'laws.FnExactReadRational'. -/
def fnExactReadRationalUptoCard : Claim7 := { stood := { row := fnExactReadRationalUptoRow, standIns := [], harness := (true, "2f5bcffe171d31bf1f0425a92d798c411519b014b68419071532b2fdbd283f19"), looks := true }, kinds := [], alts := [], laidByText := true, laidKinds := [.data, .data, .data, .sentinel, .sentinel], laidTests := true, laidLooks := .later }
def FnExactReadRationalUptoCardSaid : Prop := Claim7.holds Tryd.pinned (.plain (OpenSpec.upto fnExactReadRationalSpec)) fnExactReadRationalUptoCard

/-- THE SECOND FORM's CARD OF 'laws.FnExactReadPowers'. -/
def fnExactReadPowersUptoCard : Claim7 := { stood := { row := fnExactReadPowersUptoRow, standIns := [], harness := (true, "2f5bcffe171d31bf1f0425a92d798c411519b014b68419071532b2fdbd283f19"), looks := true }, kinds := [], alts := [], laidByText := true, laidKinds := [.data, .data, .data, .data, .sentinel, .sentinel, .pinned], laidTests := true, laidLooks := .later }
def FnExactReadPowersUptoCardSaid : Prop := Claim7.holds Tryd.pinned (.plain (OpenSpec.upto fnExactReadPowersSpec)) fnExactReadPowersUptoCard

/-- THE SECOND FORM's CARD OF 'laws.FnExactReadSplitting'. -/
def fnExactReadSplittingUptoCard : Claim7 := { stood := { row := fnExactReadSplittingUptoRow, standIns := [], harness := (true, "2f5bcffe171d31bf1f0425a92d798c411519b014b68419071532b2fdbd283f19"), looks := true }, kinds := [], alts := [], laidByText := true, laidKinds := [.data, .data, .data, .data, .sentinel, .sentinel, .pinned], laidTests := true, laidLooks := .later }
def FnExactReadSplittingUptoCardSaid : Prop := Claim7.holds Tryd.pinned (.plain (OpenSpec.upto fnExactReadSplittingSpec)) fnExactReadSplittingUptoCard

/-- THE SECOND FORM's CARD OF 'laws.FnExactReadPolynomial'. -/
def fnExactReadPolynomialUptoCard : Claim7 := { stood := { row := fnExactReadPolynomialUptoRow, standIns := [], harness := (true, "2f5bcffe171d31bf1f0425a92d798c411519b014b68419071532b2fdbd283f19"), looks := true }, kinds := [], alts := [], laidByText := true, laidKinds := [.data, .data, .data, .data, .sentinel, .sentinel, .pinned], laidTests := true, laidLooks := .later }
def FnExactReadPolynomialUptoCardSaid : Prop := Claim7.holds Tryd.pinned (.plain (OpenSpec.upto fnExactReadPolynomialSpec)) fnExactReadPolynomialUptoCard

/-- THE SECOND FORM's CARD OF 'laws.FnRationalTexts'. -/
def fnRationalTextsUptoCard : Claim7 := { stood := { row := fnRationalTextsUptoRow, standIns := [], harness := (true, "2f5bcffe171d31bf1f0425a92d798c411519b014b68419071532b2fdbd283f19"), looks := true }, kinds := [], alts := [], laidByText := true, laidKinds := [.data, .data, .data, .sentinel, .sentinel], laidTests := true, laidLooks := .later }
def FnRationalTextsUptoCardSaid : Prop := Claim7.holds Tryd.pinned (.plain (OpenSpec.upto fnRationalTextsSpec)) fnRationalTextsUptoCard

/-- THE SECOND FORM's CARD OF 'laws.FnPowerTexts'. -/
def fnPowerTextsUptoCard : Claim7 := { stood := { row := fnPowerTextsUptoRow, standIns := [], harness := (true, "2f5bcffe171d31bf1f0425a92d798c411519b014b68419071532b2fdbd283f19"), looks := true }, kinds := [], alts := [], laidByText := true, laidKinds := [.data, .data, .data, .data, .sentinel, .sentinel, .pinned], laidTests := true, laidLooks := .later }
def FnPowerTextsUptoCardSaid : Prop := Claim7.holds Tryd.pinned (.plain (OpenSpec.upto fnPowerTextsSpec)) fnPowerTextsUptoCard

/-- THE SECOND FORM's CARD OF 'laws.FnPolynomialTexts'. -/
def fnPolynomialTextsUptoCard : Claim7 := { stood := { row := fnPolynomialTextsUptoRow, standIns := [], harness := (true, "2f5bcffe171d31bf1f0425a92d798c411519b014b68419071532b2fdbd283f19"), looks := true }, kinds := [], alts := [], laidByText := true, laidKinds := [.data, .data, .data, .data, .sentinel, .sentinel, .pinned], laidTests := true, laidLooks := .later }
def FnPolynomialTextsUptoCardSaid : Prop := Claim7.holds Tryd.pinned (.plain (OpenSpec.upto fnPolynomialTextsSpec)) fnPolynomialTextsUptoCard

/-- THE SECOND FORM's CARD OF 'laws.FnSplittingTexts'. -/
def fnSplittingTextsUptoCard : Claim7 := { stood := { row := fnSplittingTextsUptoRow, standIns := [], harness := (true, "2f5bcffe171d31bf1f0425a92d798c411519b014b68419071532b2fdbd283f19"), looks := true }, kinds := [], alts := [], laidByText := true, laidKinds := [.data, .data, .data, .data, .sentinel, .sentinel, .pinned], laidTests := true, laidLooks := .later }
def FnSplittingTextsUptoCardSaid : Prop := Claim7.holds Tryd.pinned (.plain (OpenSpec.upto fnSplittingTextsSpec)) fnSplittingTextsUptoCard
end Rows
end Go.Proofs.YtgajgonepcikbaaDoor
