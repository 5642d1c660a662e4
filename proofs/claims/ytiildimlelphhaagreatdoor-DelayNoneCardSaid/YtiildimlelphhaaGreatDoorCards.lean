/-
  DERIVED. GIVEN WITH THE SEED: THE CARDS: each row of YtiildimlelphhaaGreatDoorRows.lean that lists a variable, with what it lists TIED to the program's text (the seventh form; the later family's looks); each row that meets fmt, with fmt's text TOLD by the authors' own Lean function (tested against real Go, not proved from fmt's source: count such statements apart). THE CARD IS WHAT COUNTS. Prove the row's statement (the work); the ties are given (YtiildimlelphhaaGreatDoorTie.lean); close each card by the builder's one call (the guide's Derived/Test/ToyasCard.lean, 'card_holds'). Laid BY PROGRAM, IN A SANDBOX (cutbox-door.mjs). By AI agents, Wed Nov 11 2026. No macro, syntax, notation, axiom, sorry.
-/
import Derived.Test.YtiildimlelphhaaGreatDoorRows
import GoSem.ClaimSeven
namespace Go.Proofs.YtiildimlelphhaaGreatDoor
namespace Rows

/-- THE TIED CARD OF 'carrefourlaw26.DelayTotal'. -/
def delayTotalCard : Claim7 := { stood := { row := delayTotalRow, standIns := [], harness := (true, "03e120dc88a4858b62c00dd17f45c17951feebe70137f4e6c0556275e8945d72"), looks := true }, kinds := [], alts := [], laidByText := true, laidKinds := [.data, .handle], laidTests := true, laidLooks := .later }
def DelayTotalCardSaid : Prop := Claim7.holds Tryz.pinned (.plain (OpenSpec.ofChange delayTotalSpec)) delayTotalCard

/-- THE TIED CARD OF 'carrefourlaw26.DelayMean'. -/
def delayMeanCard : Claim7 := { stood := { row := delayMeanRow, standIns := [], harness := (true, "03e120dc88a4858b62c00dd17f45c17951feebe70137f4e6c0556275e8945d72"), looks := true }, kinds := [], alts := [], laidByText := true, laidKinds := [.data, .handle], laidTests := true, laidLooks := .later }
def DelayMeanCardSaid : Prop := Claim7.holds Tryz.pinned (.plain (OpenSpec.ofChange delayMeanSpec)) delayMeanCard

/-- THE TIED CARD OF 'carrefourlaw26.DelayFormula'. -/
def delayFormulaCard : Claim7 := { stood := { row := delayFormulaRow, standIns := [], harness := (true, "03e120dc88a4858b62c00dd17f45c17951feebe70137f4e6c0556275e8945d72"), looks := true }, kinds := [], alts := [], laidByText := true, laidKinds := [.data, .handle], laidTests := true, laidLooks := .later }
def DelayFormulaCardSaid : Prop := Claim7.holds Tryz.pinned (.plain (OpenSpec.ofChange delayFormulaSpec)) delayFormulaCard

/-- THE TIED CARD OF 'carrefourlaw26.DelaySplit'. -/
def delaySplitCard : Claim7 := { stood := { row := delaySplitRow, standIns := [], harness := (true, "03e120dc88a4858b62c00dd17f45c17951feebe70137f4e6c0556275e8945d72"), looks := true }, kinds := [], alts := [], laidByText := true, laidKinds := [.data, .handle], laidTests := true, laidLooks := .later }
def DelaySplitCardSaid : Prop := Claim7.holds Tryz.pinned (.plain (OpenSpec.ofChange delaySplitSpec)) delaySplitCard

/-- THE TIED CARD OF 'carrefourlaw26.DelayNone'. -/
def delayNoneCard : Claim7 := { stood := { row := delayNoneRow, standIns := [], harness := (true, "03e120dc88a4858b62c00dd17f45c17951feebe70137f4e6c0556275e8945d72"), looks := true }, kinds := [], alts := [], laidByText := true, laidKinds := [.data, .handle], laidTests := true, laidLooks := .later }
def DelayNoneCardSaid : Prop := Claim7.holds Tryz.pinned (.plain (OpenSpec.ofChange delayNoneSpec)) delayNoneCard

/-- THE SECOND FORM's CARD OF 'carrefourlaw26.DelayTotal'. -/
def delayTotalUptoCard : Claim7 := { stood := { row := delayTotalUptoRow, standIns := [], harness := (true, "03e120dc88a4858b62c00dd17f45c17951feebe70137f4e6c0556275e8945d72"), looks := true }, kinds := [], alts := [], laidByText := true, laidKinds := [.data, .handle], laidTests := true, laidLooks := .later }
def DelayTotalUptoCardSaid : Prop := Claim7.holds Tryz.pinned (.plain (OpenSpec.upto delayTotalSpec)) delayTotalUptoCard

/-- THE SECOND FORM's CARD OF 'carrefourlaw26.DelayMean'. -/
def delayMeanUptoCard : Claim7 := { stood := { row := delayMeanUptoRow, standIns := [], harness := (true, "03e120dc88a4858b62c00dd17f45c17951feebe70137f4e6c0556275e8945d72"), looks := true }, kinds := [], alts := [], laidByText := true, laidKinds := [.data, .handle], laidTests := true, laidLooks := .later }
def DelayMeanUptoCardSaid : Prop := Claim7.holds Tryz.pinned (.plain (OpenSpec.upto delayMeanSpec)) delayMeanUptoCard

/-- THE SECOND FORM's CARD OF 'carrefourlaw26.DelayFormula'. -/
def delayFormulaUptoCard : Claim7 := { stood := { row := delayFormulaUptoRow, standIns := [], harness := (true, "03e120dc88a4858b62c00dd17f45c17951feebe70137f4e6c0556275e8945d72"), looks := true }, kinds := [], alts := [], laidByText := true, laidKinds := [.data, .handle], laidTests := true, laidLooks := .later }
def DelayFormulaUptoCardSaid : Prop := Claim7.holds Tryz.pinned (.plain (OpenSpec.upto delayFormulaSpec)) delayFormulaUptoCard

/-- THE SECOND FORM's CARD OF 'carrefourlaw26.DelaySplit'. -/
def delaySplitUptoCard : Claim7 := { stood := { row := delaySplitUptoRow, standIns := [], harness := (true, "03e120dc88a4858b62c00dd17f45c17951feebe70137f4e6c0556275e8945d72"), looks := true }, kinds := [], alts := [], laidByText := true, laidKinds := [.data, .handle], laidTests := true, laidLooks := .later }
def DelaySplitUptoCardSaid : Prop := Claim7.holds Tryz.pinned (.plain (OpenSpec.upto delaySplitSpec)) delaySplitUptoCard

/-- THE SECOND FORM's CARD OF 'carrefourlaw26.DelayNone'. -/
def delayNoneUptoCard : Claim7 := { stood := { row := delayNoneUptoRow, standIns := [], harness := (true, "03e120dc88a4858b62c00dd17f45c17951feebe70137f4e6c0556275e8945d72"), looks := true }, kinds := [], alts := [], laidByText := true, laidKinds := [.data, .handle], laidTests := true, laidLooks := .later }
def DelayNoneUptoCardSaid : Prop := Claim7.holds Tryz.pinned (.plain (OpenSpec.upto delayNoneSpec)) delayNoneUptoCard
end Rows
end Go.Proofs.YtiildimlelphhaaGreatDoor
