/-
  DERIVED. GIVEN WITH THE SEED: THE CARDS: each row of YtiijheppiboglaaGreatDoorRows.lean that lists a variable, with what it lists TIED to the program's text (the seventh form; the later family's looks); each row that meets fmt, with fmt's text TOLD by the authors' own Lean function (tested against real Go, not proved from fmt's source: count such statements apart). THE CARD IS WHAT COUNTS. Prove the row's statement (the work); the ties are given (YtiijheppiboglaaGreatDoorTie.lean); close each card by the builder's one call (the guide's Derived/Test/ToyasCard.lean, 'card_holds'). Laid BY PROGRAM, IN A SANDBOX (cutbox-door.mjs). By AI agents, Wed Nov 11 2026. No macro, syntax, notation, axiom, sorry.
-/
import Derived.Test.YtiijheppiboglaaGreatDoorRows
import GoSem.ClaimSeven
namespace Go.Proofs.YtiijheppiboglaaGreatDoor
namespace Rows

/-- THE TIED CARD OF 'laws.FnExactInkOf'. -/
def fnExactInkOfCard : Claim7 := { stood := { row := fnExactInkOfRow, standIns := [], harness := (true, "468de68268811ac350c0866b8afcc88575c2e10ab6507847880ba7abcce4bdc1"), looks := true }, kinds := [], alts := [], laidByText := true, laidKinds := [.data, .data, .data, .data, .sentinel, .sentinel, .pinned], laidTests := true, laidLooks := .later }
def FnExactInkOfCardSaid : Prop := Claim7.holds Tryz.pinned (.plain (OpenSpec.ofChange fnExactInkOfSpec)) fnExactInkOfCard

/-- THE TIED CARD OF 'laws.FnPaths'. -/
def fnPathsCard : Claim7 := { stood := { row := fnPathsRow, standIns := [], harness := (true, "468de68268811ac350c0866b8afcc88575c2e10ab6507847880ba7abcce4bdc1"), looks := true }, kinds := [], alts := [], laidByText := true, laidKinds := [.data, .data, .data, .data, .sentinel, .sentinel, .pinned], laidTests := true, laidLooks := .later }
def FnPathsCardSaid : Prop := Claim7.holds Tryz.pinned (.plain (OpenSpec.ofChange fnPathsSpec)) fnPathsCard

/-- THE TIED CARD OF 'laws.FnMoved'. -/
def fnMovedCard : Claim7 := { stood := { row := fnMovedRow, standIns := [], harness := (true, "468de68268811ac350c0866b8afcc88575c2e10ab6507847880ba7abcce4bdc1"), looks := true }, kinds := [], alts := [], laidByText := true, laidKinds := [.data, .data, .data, .data, .sentinel, .sentinel, .pinned], laidTests := true, laidLooks := .later }
def FnMovedCardSaid : Prop := Claim7.holds Tryz.pinned (.plain (OpenSpec.ofChange fnMovedSpec)) fnMovedCard

/-- THE TIED CARD OF 'laws.FnExactPictureFor'. -/
def fnExactPictureForCard : Claim7 := { stood := { row := fnExactPictureForRow, standIns := [], harness := (true, "468de68268811ac350c0866b8afcc88575c2e10ab6507847880ba7abcce4bdc1"), looks := true }, kinds := [], alts := [], laidByText := true, laidKinds := [.data, .data, .data, .data, .sentinel, .sentinel, .pinned], laidTests := true, laidLooks := .later }
def FnExactPictureForCardSaid : Prop := Claim7.holds Tryz.pinned (.plain (OpenSpec.ofChange fnExactPictureForSpec)) fnExactPictureForCard

/-- THE TIED CARD OF 'laws.FnExactRowsFor'. -/
def fnExactRowsForCard : Claim7 := { stood := { row := fnExactRowsForRow, standIns := [], harness := (true, "468de68268811ac350c0866b8afcc88575c2e10ab6507847880ba7abcce4bdc1"), looks := true }, kinds := [], alts := [], laidByText := true, laidKinds := [.data, .data, .data, .data, .sentinel, .sentinel, .pinned], laidTests := true, laidLooks := .later }
def FnExactRowsForCardSaid : Prop := Claim7.holds Tryz.pinned (.plain (OpenSpec.ofChange fnExactRowsForSpec)) fnExactRowsForCard

/-- THE TIED CARD OF 'laws.FnPictures'. -/
def fnPicturesCard : Claim7 := { stood := { row := fnPicturesRow, standIns := [], harness := (true, "468de68268811ac350c0866b8afcc88575c2e10ab6507847880ba7abcce4bdc1"), looks := true }, kinds := [], alts := [], laidByText := true, laidKinds := [.data, .data, .data, .data, .sentinel, .sentinel, .pinned], laidTests := true, laidLooks := .later }
def FnPicturesCardSaid : Prop := Claim7.holds Tryz.pinned (.plain (OpenSpec.ofChange fnPicturesSpec)) fnPicturesCard

/-- THE TIED CARD OF 'laws.FnExactSharesFor'. -/
def fnExactSharesForCard : Claim7 := { stood := { row := fnExactSharesForRow, standIns := [], harness := (true, "468de68268811ac350c0866b8afcc88575c2e10ab6507847880ba7abcce4bdc1"), looks := true }, kinds := [], alts := [], laidByText := true, laidKinds := [.data, .data, .data, .data, .sentinel, .sentinel, .pinned], laidTests := true, laidLooks := .later }
def FnExactSharesForCardSaid : Prop := Claim7.holds Tryz.pinned (.plain (OpenSpec.ofChange fnExactSharesForSpec)) fnExactSharesForCard

/-- THE TIED CARD OF 'laws.FnExactFileFor'. -/
def fnExactFileForCard : Claim7 := { stood := { row := fnExactFileForRow, standIns := [], harness := (true, "468de68268811ac350c0866b8afcc88575c2e10ab6507847880ba7abcce4bdc1"), looks := true }, kinds := [], alts := [], laidByText := true, laidKinds := [.data, .data, .data, .data, .sentinel, .sentinel, .pinned], laidTests := true, laidLooks := .later }
def FnExactFileForCardSaid : Prop := Claim7.holds Tryz.pinned (.plain (OpenSpec.ofChange fnExactFileForSpec)) fnExactFileForCard

/-- THE TIED CARD OF 'laws.FnCrops'. -/
def fnCropsCard : Claim7 := { stood := { row := fnCropsRow, standIns := [], harness := (true, "468de68268811ac350c0866b8afcc88575c2e10ab6507847880ba7abcce4bdc1"), looks := true }, kinds := [], alts := [], laidByText := true, laidKinds := [.data, .data, .data, .data, .sentinel, .sentinel, .pinned], laidTests := true, laidLooks := .later }
def FnCropsCardSaid : Prop := Claim7.holds Tryz.pinned (.plain (OpenSpec.ofChange fnCropsSpec)) fnCropsCard

/-- THE SECOND FORM's CARD OF 'laws.FnExactInkOf'. -/
def fnExactInkOfUptoCard : Claim7 := { stood := { row := fnExactInkOfUptoRow, standIns := [], harness := (true, "468de68268811ac350c0866b8afcc88575c2e10ab6507847880ba7abcce4bdc1"), looks := true }, kinds := [], alts := [], laidByText := true, laidKinds := [.data, .data, .data, .data, .sentinel, .sentinel, .pinned], laidTests := true, laidLooks := .later }
def FnExactInkOfUptoCardSaid : Prop := Claim7.holds Tryz.pinned (.plain (OpenSpec.upto fnExactInkOfSpec)) fnExactInkOfUptoCard

/-- THE SECOND FORM's CARD OF 'laws.FnPaths'. -/
def fnPathsUptoCard : Claim7 := { stood := { row := fnPathsUptoRow, standIns := [], harness := (true, "468de68268811ac350c0866b8afcc88575c2e10ab6507847880ba7abcce4bdc1"), looks := true }, kinds := [], alts := [], laidByText := true, laidKinds := [.data, .data, .data, .data, .sentinel, .sentinel, .pinned], laidTests := true, laidLooks := .later }
def FnPathsUptoCardSaid : Prop := Claim7.holds Tryz.pinned (.plain (OpenSpec.upto fnPathsSpec)) fnPathsUptoCard

/-- THE SECOND FORM's CARD OF 'laws.FnMoved'. -/
def fnMovedUptoCard : Claim7 := { stood := { row := fnMovedUptoRow, standIns := [], harness := (true, "468de68268811ac350c0866b8afcc88575c2e10ab6507847880ba7abcce4bdc1"), looks := true }, kinds := [], alts := [], laidByText := true, laidKinds := [.data, .data, .data, .data, .sentinel, .sentinel, .pinned], laidTests := true, laidLooks := .later }
def FnMovedUptoCardSaid : Prop := Claim7.holds Tryz.pinned (.plain (OpenSpec.upto fnMovedSpec)) fnMovedUptoCard

/-- THE SECOND FORM's CARD OF 'laws.FnExactPictureFor'. -/
def fnExactPictureForUptoCard : Claim7 := { stood := { row := fnExactPictureForUptoRow, standIns := [], harness := (true, "468de68268811ac350c0866b8afcc88575c2e10ab6507847880ba7abcce4bdc1"), looks := true }, kinds := [], alts := [], laidByText := true, laidKinds := [.data, .data, .data, .data, .sentinel, .sentinel, .pinned], laidTests := true, laidLooks := .later }
def FnExactPictureForUptoCardSaid : Prop := Claim7.holds Tryz.pinned (.plain (OpenSpec.upto fnExactPictureForSpec)) fnExactPictureForUptoCard

/-- THE SECOND FORM's CARD OF 'laws.FnExactRowsFor'. -/
def fnExactRowsForUptoCard : Claim7 := { stood := { row := fnExactRowsForUptoRow, standIns := [], harness := (true, "468de68268811ac350c0866b8afcc88575c2e10ab6507847880ba7abcce4bdc1"), looks := true }, kinds := [], alts := [], laidByText := true, laidKinds := [.data, .data, .data, .data, .sentinel, .sentinel, .pinned], laidTests := true, laidLooks := .later }
def FnExactRowsForUptoCardSaid : Prop := Claim7.holds Tryz.pinned (.plain (OpenSpec.upto fnExactRowsForSpec)) fnExactRowsForUptoCard

/-- THE SECOND FORM's CARD OF 'laws.FnPictures'. -/
def fnPicturesUptoCard : Claim7 := { stood := { row := fnPicturesUptoRow, standIns := [], harness := (true, "468de68268811ac350c0866b8afcc88575c2e10ab6507847880ba7abcce4bdc1"), looks := true }, kinds := [], alts := [], laidByText := true, laidKinds := [.data, .data, .data, .data, .sentinel, .sentinel, .pinned], laidTests := true, laidLooks := .later }
def FnPicturesUptoCardSaid : Prop := Claim7.holds Tryz.pinned (.plain (OpenSpec.upto fnPicturesSpec)) fnPicturesUptoCard

/-- THE SECOND FORM's CARD OF 'laws.FnExactSharesFor'. -/
def fnExactSharesForUptoCard : Claim7 := { stood := { row := fnExactSharesForUptoRow, standIns := [], harness := (true, "468de68268811ac350c0866b8afcc88575c2e10ab6507847880ba7abcce4bdc1"), looks := true }, kinds := [], alts := [], laidByText := true, laidKinds := [.data, .data, .data, .data, .sentinel, .sentinel, .pinned], laidTests := true, laidLooks := .later }
def FnExactSharesForUptoCardSaid : Prop := Claim7.holds Tryz.pinned (.plain (OpenSpec.upto fnExactSharesForSpec)) fnExactSharesForUptoCard

/-- THE SECOND FORM's CARD OF 'laws.FnExactFileFor'. -/
def fnExactFileForUptoCard : Claim7 := { stood := { row := fnExactFileForUptoRow, standIns := [], harness := (true, "468de68268811ac350c0866b8afcc88575c2e10ab6507847880ba7abcce4bdc1"), looks := true }, kinds := [], alts := [], laidByText := true, laidKinds := [.data, .data, .data, .data, .sentinel, .sentinel, .pinned], laidTests := true, laidLooks := .later }
def FnExactFileForUptoCardSaid : Prop := Claim7.holds Tryz.pinned (.plain (OpenSpec.upto fnExactFileForSpec)) fnExactFileForUptoCard

/-- THE SECOND FORM's CARD OF 'laws.FnCrops'. -/
def fnCropsUptoCard : Claim7 := { stood := { row := fnCropsUptoRow, standIns := [], harness := (true, "468de68268811ac350c0866b8afcc88575c2e10ab6507847880ba7abcce4bdc1"), looks := true }, kinds := [], alts := [], laidByText := true, laidKinds := [.data, .data, .data, .data, .sentinel, .sentinel, .pinned], laidTests := true, laidLooks := .later }
def FnCropsUptoCardSaid : Prop := Claim7.holds Tryz.pinned (.plain (OpenSpec.upto fnCropsSpec)) fnCropsUptoCard
end Rows
end Go.Proofs.YtiijheppiboglaaGreatDoor
