/-
  DERIVED. GIVEN WITH THE SEED: THE CARDS: each row of YtpbflceekikbiaaDoorRows.lean that lists a variable, with what it lists TIED to the program's text (the seventh form; the later family's looks); each row that meets fmt, with fmt's text TOLD by the authors' own Lean function (tested against real Go, not proved from fmt's source: count such statements apart). THE CARD IS WHAT COUNTS. Prove the row's statement (the work); the ties are given (YtpbflceekikbiaaDoorTie.lean); close each card by the builder's one call (the guide's Derived/Test/ToyasCard.lean, 'card_holds'). Laid BY PROGRAM, IN A SANDBOX (cutbox-door.mjs). By AI agents, Wed Nov 11 2026. No macro, syntax, notation, axiom, sorry.
-/
import Derived.Test.YtpbflceekikbiaaDoorRows
import GoSem.ClaimSeven
namespace Go.Proofs.YtpbflceekikbiaaDoor
namespace Rows

/-- THE TIED CARD OF 'laws.FnExactDecimal'. -/
def fnExactDecimalCard : Claim7 := { stood := { row := fnExactDecimalRow, standIns := [], harness := (true, "c3967943639ec3251c1ea9805d27be5f64cf0df7d5fac8086dab33e63fcac9af"), looks := true }, kinds := [], alts := [], laidByText := true, laidKinds := [.data, .data, .data], laidTests := true, laidLooks := .later }
def FnExactDecimalCardSaid : Prop := Claim7.holds Tryd.pinned (.plain (OpenSpec.ofChange fnExactDecimalSpec)) fnExactDecimalCard

/-- THE TIED CARD OF 'laws.FnExactIntText'. -/
def fnExactIntTextCard : Claim7 := { stood := { row := fnExactIntTextRow, standIns := [], harness := (true, "c3967943639ec3251c1ea9805d27be5f64cf0df7d5fac8086dab33e63fcac9af"), looks := true }, kinds := [], alts := [], laidByText := true, laidKinds := [.data, .data, .data], laidTests := true, laidLooks := .later }
def FnExactIntTextCardSaid : Prop := Claim7.holds Tryd.pinned (.plain (OpenSpec.ofChange fnExactIntTextSpec)) fnExactIntTextCard

/-- THE TIED CARD OF 'laws.FnExactAmountText'. -/
def fnExactAmountTextCard : Claim7 := { stood := { row := fnExactAmountTextRow, standIns := [], harness := (true, "c3967943639ec3251c1ea9805d27be5f64cf0df7d5fac8086dab33e63fcac9af"), looks := true }, kinds := [], alts := [], laidByText := true, laidKinds := [.data, .data, .data], laidTests := true, laidLooks := .later }
def FnExactAmountTextCardSaid : Prop := Claim7.holds Tryd.pinned (.plain (OpenSpec.ofChange fnExactAmountTextSpec)) fnExactAmountTextCard

/-- THE TIED CARD OF 'laws.FnExactReadInt'. -/
def fnExactReadIntCard : Claim7 := { stood := { row := fnExactReadIntRow, standIns := [], harness := (true, "c3967943639ec3251c1ea9805d27be5f64cf0df7d5fac8086dab33e63fcac9af"), looks := true }, kinds := [], alts := [], laidByText := true, laidKinds := [.data, .data, .data, .sentinel, .sentinel], laidTests := true, laidLooks := .later }
def FnExactReadIntCardSaid : Prop := Claim7.holds Tryd.pinned (.plain (OpenSpec.ofChange fnExactReadIntSpec)) fnExactReadIntCard

/-- THE TIED CARD OF 'laws.FnExactReadDecimal'. -/
def fnExactReadDecimalCard : Claim7 := { stood := { row := fnExactReadDecimalRow, standIns := [], harness := (true, "c3967943639ec3251c1ea9805d27be5f64cf0df7d5fac8086dab33e63fcac9af"), looks := true }, kinds := [], alts := [], laidByText := true, laidKinds := [.data, .data, .data, .sentinel, .sentinel], laidTests := true, laidLooks := .later }
def FnExactReadDecimalCardSaid : Prop := Claim7.holds Tryd.pinned (.plain (OpenSpec.ofChange fnExactReadDecimalSpec)) fnExactReadDecimalCard

/-- THE TIED CARD OF 'laws.FnPowers'. -/
def fnPowersCard : Claim7 := { stood := { row := fnPowersRow, standIns := [], harness := (true, "c3967943639ec3251c1ea9805d27be5f64cf0df7d5fac8086dab33e63fcac9af"), looks := true }, kinds := [], alts := [], laidByText := true, laidKinds := [.data, .data, .data, .sentinel, .sentinel], laidTests := true, laidLooks := .later }
def FnPowersCardSaid : Prop := Claim7.holds Tryd.pinned (.plain (OpenSpec.ofChange fnPowersSpec)) fnPowersCard

/-- THE TIED CARD OF 'laws.FnFigures'. -/
def fnFiguresCard : Claim7 := { stood := { row := fnFiguresRow, standIns := [], harness := (true, "c3967943639ec3251c1ea9805d27be5f64cf0df7d5fac8086dab33e63fcac9af"), looks := true }, kinds := [], alts := [], laidByText := true, laidKinds := [.data, .data, .data, .sentinel, .sentinel], laidTests := true, laidLooks := .later }
def FnFiguresCardSaid : Prop := Claim7.holds Tryd.pinned (.plain (OpenSpec.ofChange fnFiguresSpec)) fnFiguresCard

/-- THE TIED CARD OF 'laws.FnExactReadAmount'. -/
def fnExactReadAmountCard : Claim7 := { stood := { row := fnExactReadAmountRow, standIns := [], harness := (true, "c3967943639ec3251c1ea9805d27be5f64cf0df7d5fac8086dab33e63fcac9af"), looks := true }, kinds := [], alts := [], laidByText := true, laidKinds := [.data, .data, .data, .sentinel, .sentinel], laidTests := true, laidLooks := .later }
def FnExactReadAmountCardSaid : Prop := Claim7.holds Tryd.pinned (.plain (OpenSpec.ofChange fnExactReadAmountSpec)) fnExactReadAmountCard

/-- THE TIED CARD OF 'laws.FnExactNormalAmount'. -/
def fnExactNormalAmountCard : Claim7 := { stood := { row := fnExactNormalAmountRow, standIns := [], harness := (true, "c3967943639ec3251c1ea9805d27be5f64cf0df7d5fac8086dab33e63fcac9af"), looks := true }, kinds := [], alts := [], laidByText := true, laidKinds := [.data, .data, .data, .sentinel, .sentinel], laidTests := true, laidLooks := .later }
def FnExactNormalAmountCardSaid : Prop := Claim7.holds Tryd.pinned (.plain (OpenSpec.ofChange fnExactNormalAmountSpec)) fnExactNormalAmountCard

/-- THE TIED CARD OF 'laws.FnExactCompareAmounts'. -/
def fnExactCompareAmountsCard : Claim7 := { stood := { row := fnExactCompareAmountsRow, standIns := [], harness := (true, "c3967943639ec3251c1ea9805d27be5f64cf0df7d5fac8086dab33e63fcac9af"), looks := true }, kinds := [], alts := [], laidByText := true, laidKinds := [.data, .data, .data, .sentinel, .sentinel], laidTests := true, laidLooks := .later }
def FnExactCompareAmountsCardSaid : Prop := Claim7.holds Tryd.pinned (.plain (OpenSpec.ofChange fnExactCompareAmountsSpec)) fnExactCompareAmountsCard

/-- THE TIED CARD OF 'laws.FnUnits'. -/
def fnUnitsCard : Claim7 := { stood := { row := fnUnitsRow, standIns := [], harness := (true, "c3967943639ec3251c1ea9805d27be5f64cf0df7d5fac8086dab33e63fcac9af"), looks := true }, kinds := [], alts := [], laidByText := true, laidKinds := [.data, .data, .data, .sentinel, .sentinel], laidTests := true, laidLooks := .later }
def FnUnitsCardSaid : Prop := Claim7.holds Tryd.pinned (.plain (OpenSpec.ofChange fnUnitsSpec)) fnUnitsCard

/-- THE TIED CARD OF 'laws.FnAmounts'. -/
def fnAmountsCard : Claim7 := { stood := { row := fnAmountsRow, standIns := [], harness := (true, "c3967943639ec3251c1ea9805d27be5f64cf0df7d5fac8086dab33e63fcac9af"), looks := true }, kinds := [], alts := [], laidByText := true, laidKinds := [.data, .data, .data, .sentinel, .sentinel], laidTests := true, laidLooks := .later }
def FnAmountsCardSaid : Prop := Claim7.holds Tryd.pinned (.plain (OpenSpec.ofChange fnAmountsSpec)) fnAmountsCard

/-- THE SECOND FORM's CARD OF 'laws.FnExactDecimal'. -/
def fnExactDecimalUptoCard : Claim7 := { stood := { row := fnExactDecimalUptoRow, standIns := [], harness := (true, "c3967943639ec3251c1ea9805d27be5f64cf0df7d5fac8086dab33e63fcac9af"), looks := true }, kinds := [], alts := [], laidByText := true, laidKinds := [.data, .data, .data], laidTests := true, laidLooks := .later }
def FnExactDecimalUptoCardSaid : Prop := Claim7.holds Tryd.pinned (.plain (OpenSpec.upto fnExactDecimalSpec)) fnExactDecimalUptoCard

/-- THE SECOND FORM's CARD OF 'laws.FnExactIntText'. -/
def fnExactIntTextUptoCard : Claim7 := { stood := { row := fnExactIntTextUptoRow, standIns := [], harness := (true, "c3967943639ec3251c1ea9805d27be5f64cf0df7d5fac8086dab33e63fcac9af"), looks := true }, kinds := [], alts := [], laidByText := true, laidKinds := [.data, .data, .data], laidTests := true, laidLooks := .later }
def FnExactIntTextUptoCardSaid : Prop := Claim7.holds Tryd.pinned (.plain (OpenSpec.upto fnExactIntTextSpec)) fnExactIntTextUptoCard

/-- THE SECOND FORM's CARD OF 'laws.FnExactAmountText'. -/
def fnExactAmountTextUptoCard : Claim7 := { stood := { row := fnExactAmountTextUptoRow, standIns := [], harness := (true, "c3967943639ec3251c1ea9805d27be5f64cf0df7d5fac8086dab33e63fcac9af"), looks := true }, kinds := [], alts := [], laidByText := true, laidKinds := [.data, .data, .data], laidTests := true, laidLooks := .later }
def FnExactAmountTextUptoCardSaid : Prop := Claim7.holds Tryd.pinned (.plain (OpenSpec.upto fnExactAmountTextSpec)) fnExactAmountTextUptoCard

/-- THE SECOND FORM's CARD OF 'laws.FnExactReadInt'. -/
def fnExactReadIntUptoCard : Claim7 := { stood := { row := fnExactReadIntUptoRow, standIns := [], harness := (true, "c3967943639ec3251c1ea9805d27be5f64cf0df7d5fac8086dab33e63fcac9af"), looks := true }, kinds := [], alts := [], laidByText := true, laidKinds := [.data, .data, .data, .sentinel, .sentinel], laidTests := true, laidLooks := .later }
def FnExactReadIntUptoCardSaid : Prop := Claim7.holds Tryd.pinned (.plain (OpenSpec.upto fnExactReadIntSpec)) fnExactReadIntUptoCard

/-- THE SECOND FORM's CARD OF 'laws.FnExactReadDecimal'. -/
def fnExactReadDecimalUptoCard : Claim7 := { stood := { row := fnExactReadDecimalUptoRow, standIns := [], harness := (true, "c3967943639ec3251c1ea9805d27be5f64cf0df7d5fac8086dab33e63fcac9af"), looks := true }, kinds := [], alts := [], laidByText := true, laidKinds := [.data, .data, .data, .sentinel, .sentinel], laidTests := true, laidLooks := .later }
def FnExactReadDecimalUptoCardSaid : Prop := Claim7.holds Tryd.pinned (.plain (OpenSpec.upto fnExactReadDecimalSpec)) fnExactReadDecimalUptoCard

/-- THE SECOND FORM's CARD OF 'laws.FnPowers'. -/
def fnPowersUptoCard : Claim7 := { stood := { row := fnPowersUptoRow, standIns := [], harness := (true, "c3967943639ec3251c1ea9805d27be5f64cf0df7d5fac8086dab33e63fcac9af"), looks := true }, kinds := [], alts := [], laidByText := true, laidKinds := [.data, .data, .data, .sentinel, .sentinel], laidTests := true, laidLooks := .later }
def FnPowersUptoCardSaid : Prop := Claim7.holds Tryd.pinned (.plain (OpenSpec.upto fnPowersSpec)) fnPowersUptoCard

/-- THE SECOND FORM's CARD OF 'laws.FnFigures'. -/
def fnFiguresUptoCard : Claim7 := { stood := { row := fnFiguresUptoRow, standIns := [], harness := (true, "c3967943639ec3251c1ea9805d27be5f64cf0df7d5fac8086dab33e63fcac9af"), looks := true }, kinds := [], alts := [], laidByText := true, laidKinds := [.data, .data, .data, .sentinel, .sentinel], laidTests := true, laidLooks := .later }
def FnFiguresUptoCardSaid : Prop := Claim7.holds Tryd.pinned (.plain (OpenSpec.upto fnFiguresSpec)) fnFiguresUptoCard

/-- THE SECOND FORM's CARD OF 'laws.FnExactReadAmount'. -/
def fnExactReadAmountUptoCard : Claim7 := { stood := { row := fnExactReadAmountUptoRow, standIns := [], harness := (true, "c3967943639ec3251c1ea9805d27be5f64cf0df7d5fac8086dab33e63fcac9af"), looks := true }, kinds := [], alts := [], laidByText := true, laidKinds := [.data, .data, .data, .sentinel, .sentinel], laidTests := true, laidLooks := .later }
def FnExactReadAmountUptoCardSaid : Prop := Claim7.holds Tryd.pinned (.plain (OpenSpec.upto fnExactReadAmountSpec)) fnExactReadAmountUptoCard

/-- THE SECOND FORM's CARD OF 'laws.FnExactNormalAmount'. -/
def fnExactNormalAmountUptoCard : Claim7 := { stood := { row := fnExactNormalAmountUptoRow, standIns := [], harness := (true, "c3967943639ec3251c1ea9805d27be5f64cf0df7d5fac8086dab33e63fcac9af"), looks := true }, kinds := [], alts := [], laidByText := true, laidKinds := [.data, .data, .data, .sentinel, .sentinel], laidTests := true, laidLooks := .later }
def FnExactNormalAmountUptoCardSaid : Prop := Claim7.holds Tryd.pinned (.plain (OpenSpec.upto fnExactNormalAmountSpec)) fnExactNormalAmountUptoCard

/-- THE SECOND FORM's CARD OF 'laws.FnExactCompareAmounts'. -/
def fnExactCompareAmountsUptoCard : Claim7 := { stood := { row := fnExactCompareAmountsUptoRow, standIns := [], harness := (true, "c3967943639ec3251c1ea9805d27be5f64cf0df7d5fac8086dab33e63fcac9af"), looks := true }, kinds := [], alts := [], laidByText := true, laidKinds := [.data, .data, .data, .sentinel, .sentinel], laidTests := true, laidLooks := .later }
def FnExactCompareAmountsUptoCardSaid : Prop := Claim7.holds Tryd.pinned (.plain (OpenSpec.upto fnExactCompareAmountsSpec)) fnExactCompareAmountsUptoCard

/-- THE SECOND FORM's CARD OF 'laws.FnUnits'. -/
def fnUnitsUptoCard : Claim7 := { stood := { row := fnUnitsUptoRow, standIns := [], harness := (true, "c3967943639ec3251c1ea9805d27be5f64cf0df7d5fac8086dab33e63fcac9af"), looks := true }, kinds := [], alts := [], laidByText := true, laidKinds := [.data, .data, .data, .sentinel, .sentinel], laidTests := true, laidLooks := .later }
def FnUnitsUptoCardSaid : Prop := Claim7.holds Tryd.pinned (.plain (OpenSpec.upto fnUnitsSpec)) fnUnitsUptoCard

/-- THE SECOND FORM's CARD OF 'laws.FnAmounts'. -/
def fnAmountsUptoCard : Claim7 := { stood := { row := fnAmountsUptoRow, standIns := [], harness := (true, "c3967943639ec3251c1ea9805d27be5f64cf0df7d5fac8086dab33e63fcac9af"), looks := true }, kinds := [], alts := [], laidByText := true, laidKinds := [.data, .data, .data, .sentinel, .sentinel], laidTests := true, laidLooks := .later }
def FnAmountsUptoCardSaid : Prop := Claim7.holds Tryd.pinned (.plain (OpenSpec.upto fnAmountsSpec)) fnAmountsUptoCard
end Rows
end Go.Proofs.YtpbflceekikbiaaDoor
