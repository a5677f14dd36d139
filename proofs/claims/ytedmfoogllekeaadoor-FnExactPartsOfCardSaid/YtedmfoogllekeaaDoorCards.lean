/-
  DERIVED. GIVEN WITH THE SEED: THE CARDS: each row of YtedmfoogllekeaaDoorRows.lean that lists a variable, with what it lists TIED to the program's text (the seventh form; the later family's looks); each row that meets fmt, with fmt's text TOLD by the authors' own Lean function (tested against real Go, not proved from fmt's source: count such statements apart). THE CARD IS WHAT COUNTS. Prove the row's statement (the work); the ties are given (YtedmfoogllekeaaDoorTie.lean); close each card by the builder's one call (the guide's Derived/Test/ToyasCard.lean, 'card_holds'). Laid BY PROGRAM, IN A SANDBOX (cutbox-door.mjs). By AI agents, Wed Nov 11 2026. No macro, syntax, notation, axiom, sorry.
-/
import Derived.Test.YtedmfoogllekeaaDoorRows
import GoSem.ClaimSeven
namespace Go.Proofs.YtedmfoogllekeaaDoor
namespace Rows

/-- THE TIED CARD OF 'laws.FnExactRuneAt'. -/
def fnExactRuneAtCard : Claim7 := { stood := { row := fnExactRuneAtRow, standIns := [], harness := (true, "f99e1bd5cc879958adbd17139004c3236fdd6871a9c0739de403d2a41a3324cd"), looks := false }, kinds := [], alts := [], laidByText := true, laidKinds := [.data, .pinned], laidTests := true, laidLooks := .later }
def FnExactRuneAtCardSaid : Prop := Claim7.holds Tryd.pinned (.plain (OpenSpec.ofChange fnExactRuneAtSpec)) fnExactRuneAtCard

/-- THE TIED CARD OF 'laws.FnExactPartsOf'. -/
def fnExactPartsOfCard : Claim7 := { stood := { row := fnExactPartsOfRow, standIns := [], harness := (true, "f99e1bd5cc879958adbd17139004c3236fdd6871a9c0739de403d2a41a3324cd"), looks := false }, kinds := [], alts := [], laidByText := true, laidKinds := [.listed, .data], laidTests := true, laidLooks := .later }
def FnExactPartsOfCardSaid : Prop := Claim7.holds Tryd.pinned (.plain (OpenSpec.ofChange fnExactPartsOfSpec)) fnExactPartsOfCard

/-- THE SECOND FORM's CARD OF 'laws.FnExactRuneAt'. -/
def fnExactRuneAtUptoCard : Claim7 := { stood := { row := fnExactRuneAtUptoRow, standIns := [], harness := (true, "f99e1bd5cc879958adbd17139004c3236fdd6871a9c0739de403d2a41a3324cd"), looks := false }, kinds := [], alts := [], laidByText := true, laidKinds := [.data, .pinned], laidTests := true, laidLooks := .later }
def FnExactRuneAtUptoCardSaid : Prop := Claim7.holds Tryd.pinned (.plain (OpenSpec.upto fnExactRuneAtSpec)) fnExactRuneAtUptoCard

/-- THE SECOND FORM's CARD OF 'laws.FnExactPartsOf'. -/
def fnExactPartsOfUptoCard : Claim7 := { stood := { row := fnExactPartsOfUptoRow, standIns := [], harness := (true, "f99e1bd5cc879958adbd17139004c3236fdd6871a9c0739de403d2a41a3324cd"), looks := false }, kinds := [], alts := [], laidByText := true, laidKinds := [.listed, .data], laidTests := true, laidLooks := .later }
def FnExactPartsOfUptoCardSaid : Prop := Claim7.holds Tryd.pinned (.plain (OpenSpec.upto fnExactPartsOfSpec)) fnExactPartsOfUptoCard
end Rows
end Go.Proofs.YtedmfoogllekeaaDoor
