/-
  DERIVED. GIVEN WITH THE SEED: THE CARDS: each row of YtnhibkgoinnmcaaDoorRows.lean that lists a variable, with what it lists TIED to the program's text (the seventh form; the later family's looks); each row that meets fmt, with fmt's text TOLD by the authors' own Lean function (tested against real Go, not proved from fmt's source: count such statements apart). THE CARD IS WHAT COUNTS. Prove the row's statement (the work); the ties are given (YtnhibkgoinnmcaaDoorTie.lean); close each card by the builder's one call (the guide's Derived/Test/ToyasCard.lean, 'card_holds'). Laid BY PROGRAM, IN A SANDBOX (cutbox-door.mjs). By AI agents, Wed Nov 11 2026. No macro, syntax, notation, axiom, sorry.
-/
import Derived.Test.YtnhibkgoinnmcaaDoorRows
import GoSem.ClaimSeven
namespace Go.Proofs.YtnhibkgoinnmcaaDoor
namespace Rows

/-- THE TIED CARD OF 'laws.FnExactNumberText'. -/
def fnExactNumberTextCard : Claim7 := { stood := { row := fnExactNumberTextRow, standIns := [], harness := (true, "adc444537e5e235a1c12790dd89a2b15b143492a964298a5ceb9355dab6fa37c"), looks := true }, kinds := [], alts := [], laidByText := true, laidKinds := [.data, .data, .data], laidTests := true, laidLooks := .later }
def FnExactNumberTextCardSaid : Prop := Claim7.holds Tryd.pinned (.plain (OpenSpec.ofChange fnExactNumberTextSpec)) fnExactNumberTextCard

/-- THE TIED CARD OF 'laws.FnExactReadPicture'. -/
def fnExactReadPictureCard : Claim7 := { stood := { row := fnExactReadPictureRow, standIns := [], harness := (true, "adc444537e5e235a1c12790dd89a2b15b143492a964298a5ceb9355dab6fa37c"), looks := true }, kinds := [], alts := [], laidByText := true, laidKinds := [.data, .data, .data], laidTests := true, laidLooks := .later }
def FnExactReadPictureCardSaid : Prop := Claim7.holds Tryd.pinned (.plain (OpenSpec.ofChange fnExactReadPictureSpec)) fnExactReadPictureCard

/-- THE TIED CARD OF 'laws.FnExactPictureBytes'. -/
def fnExactPictureBytesCard : Claim7 := { stood := { row := fnExactPictureBytesRow, standIns := [], harness := (true, "adc444537e5e235a1c12790dd89a2b15b143492a964298a5ceb9355dab6fa37c"), looks := true }, kinds := [], alts := [], laidByText := true, laidKinds := [.data, .data, .data], laidTests := true, laidLooks := .later }
def FnExactPictureBytesCardSaid : Prop := Claim7.holds Tryd.pinned (.plain (OpenSpec.ofChange fnExactPictureBytesSpec)) fnExactPictureBytesCard

/-- THE TIED CARD OF 'laws.FnExactRunsText'. -/
def fnExactRunsTextCard : Claim7 := { stood := { row := fnExactRunsTextRow, standIns := [], harness := (true, "adc444537e5e235a1c12790dd89a2b15b143492a964298a5ceb9355dab6fa37c"), looks := true }, kinds := [], alts := [], laidByText := true, laidKinds := [.data, .data, .data], laidTests := true, laidLooks := .later }
def FnExactRunsTextCardSaid : Prop := Claim7.holds Tryd.pinned (.plain (OpenSpec.ofChange fnExactRunsTextSpec)) fnExactRunsTextCard

/-- THE TIED CARD OF 'laws.FnFiles'. -/
def fnFilesCard : Claim7 := { stood := { row := fnFilesRow, standIns := [], harness := (true, "adc444537e5e235a1c12790dd89a2b15b143492a964298a5ceb9355dab6fa37c"), looks := true }, kinds := [], alts := [], laidByText := true, laidKinds := [.data, .data, .data], laidTests := true, laidLooks := .later }
def FnFilesCardSaid : Prop := Claim7.holds Tryd.pinned (.plain (OpenSpec.ofChange fnFilesSpec)) fnFilesCard

/-- THE TIED CARD OF 'laws.FnExactPrintPath'. -/
def fnExactPrintPathCard : Claim7 := { stood := { row := fnExactPrintPathRow, standIns := [], harness := (true, "adc444537e5e235a1c12790dd89a2b15b143492a964298a5ceb9355dab6fa37c"), looks := true }, kinds := [], alts := [], laidByText := true, laidKinds := [.data, .data, .data], laidTests := true, laidLooks := .later }
def FnExactPrintPathCardSaid : Prop := Claim7.holds Tryd.pinned (.plain (OpenSpec.ofChange fnExactPrintPathSpec)) fnExactPrintPathCard

/-- THE TIED CARD OF 'laws.FnExactReadNumber'. -/
def fnExactReadNumberCard : Claim7 := { stood := { row := fnExactReadNumberRow, standIns := [], harness := (true, "adc444537e5e235a1c12790dd89a2b15b143492a964298a5ceb9355dab6fa37c"), looks := true }, kinds := [], alts := [], laidByText := true, laidKinds := [.data, .data, .data, .sentinel, .sentinel], laidTests := true, laidLooks := .later }
def FnExactReadNumberCardSaid : Prop := Claim7.holds Tryd.pinned (.plain (OpenSpec.ofChange fnExactReadNumberSpec)) fnExactReadNumberCard

/-- THE TIED CARD OF 'laws.FnExactReadRuns'. -/
def fnExactReadRunsCard : Claim7 := { stood := { row := fnExactReadRunsRow, standIns := [], harness := (true, "adc444537e5e235a1c12790dd89a2b15b143492a964298a5ceb9355dab6fa37c"), looks := true }, kinds := [], alts := [], laidByText := true, laidKinds := [.data, .data, .data, .data, .sentinel, .sentinel, .pinned], laidTests := true, laidLooks := .later }
def FnExactReadRunsCardSaid : Prop := Claim7.holds Tryd.pinned (.plain (OpenSpec.ofChange fnExactReadRunsSpec)) fnExactReadRunsCard

/-- THE TIED CARD OF 'laws.FnExactCountIn'. -/
def fnExactCountInCard : Claim7 := { stood := { row := fnExactCountInRow, standIns := [], harness := (true, "adc444537e5e235a1c12790dd89a2b15b143492a964298a5ceb9355dab6fa37c"), looks := true }, kinds := [], alts := [], laidByText := true, laidKinds := [.data, .data, .data, .data, .sentinel, .sentinel, .pinned], laidTests := true, laidLooks := .later }
def FnExactCountInCardSaid : Prop := Claim7.holds Tryd.pinned (.plain (OpenSpec.ofChange fnExactCountInSpec)) fnExactCountInCard

/-- THE TIED CARD OF 'laws.FnExactParsePath'. -/
def fnExactParsePathCard : Claim7 := { stood := { row := fnExactParsePathRow, standIns := [], harness := (true, "adc444537e5e235a1c12790dd89a2b15b143492a964298a5ceb9355dab6fa37c"), looks := true }, kinds := [], alts := [], laidByText := true, laidKinds := [.data, .data, .data, .data, .sentinel, .sentinel, .pinned], laidTests := true, laidLooks := .later }
def FnExactParsePathCardSaid : Prop := Claim7.holds Tryd.pinned (.plain (OpenSpec.ofChange fnExactParsePathSpec)) fnExactParsePathCard

/-- THE TIED CARD OF 'laws.FnExactFitsWindow'. -/
def fnExactFitsWindowCard : Claim7 := { stood := { row := fnExactFitsWindowRow, standIns := [], harness := (true, "adc444537e5e235a1c12790dd89a2b15b143492a964298a5ceb9355dab6fa37c"), looks := true }, kinds := [], alts := [], laidByText := true, laidKinds := [.data, .data, .data, .data, .sentinel, .sentinel, .pinned], laidTests := true, laidLooks := .later }
def FnExactFitsWindowCardSaid : Prop := Claim7.holds Tryd.pinned (.plain (OpenSpec.ofChange fnExactFitsWindowSpec)) fnExactFitsWindowCard

/-- THE SECOND FORM's CARD OF 'laws.FnExactNumberText'. -/
def fnExactNumberTextUptoCard : Claim7 := { stood := { row := fnExactNumberTextUptoRow, standIns := [], harness := (true, "adc444537e5e235a1c12790dd89a2b15b143492a964298a5ceb9355dab6fa37c"), looks := true }, kinds := [], alts := [], laidByText := true, laidKinds := [.data, .data, .data], laidTests := true, laidLooks := .later }
def FnExactNumberTextUptoCardSaid : Prop := Claim7.holds Tryd.pinned (.plain (OpenSpec.upto fnExactNumberTextSpec)) fnExactNumberTextUptoCard

/-- THE SECOND FORM's CARD OF 'laws.FnExactReadPicture'. -/
def fnExactReadPictureUptoCard : Claim7 := { stood := { row := fnExactReadPictureUptoRow, standIns := [], harness := (true, "adc444537e5e235a1c12790dd89a2b15b143492a964298a5ceb9355dab6fa37c"), looks := true }, kinds := [], alts := [], laidByText := true, laidKinds := [.data, .data, .data], laidTests := true, laidLooks := .later }
def FnExactReadPictureUptoCardSaid : Prop := Claim7.holds Tryd.pinned (.plain (OpenSpec.upto fnExactReadPictureSpec)) fnExactReadPictureUptoCard

/-- THE SECOND FORM's CARD OF 'laws.FnExactPictureBytes'. -/
def fnExactPictureBytesUptoCard : Claim7 := { stood := { row := fnExactPictureBytesUptoRow, standIns := [], harness := (true, "adc444537e5e235a1c12790dd89a2b15b143492a964298a5ceb9355dab6fa37c"), looks := true }, kinds := [], alts := [], laidByText := true, laidKinds := [.data, .data, .data], laidTests := true, laidLooks := .later }
def FnExactPictureBytesUptoCardSaid : Prop := Claim7.holds Tryd.pinned (.plain (OpenSpec.upto fnExactPictureBytesSpec)) fnExactPictureBytesUptoCard

/-- THE SECOND FORM's CARD OF 'laws.FnExactRunsText'. -/
def fnExactRunsTextUptoCard : Claim7 := { stood := { row := fnExactRunsTextUptoRow, standIns := [], harness := (true, "adc444537e5e235a1c12790dd89a2b15b143492a964298a5ceb9355dab6fa37c"), looks := true }, kinds := [], alts := [], laidByText := true, laidKinds := [.data, .data, .data], laidTests := true, laidLooks := .later }
def FnExactRunsTextUptoCardSaid : Prop := Claim7.holds Tryd.pinned (.plain (OpenSpec.upto fnExactRunsTextSpec)) fnExactRunsTextUptoCard

/-- THE SECOND FORM's CARD OF 'laws.FnFiles'. -/
def fnFilesUptoCard : Claim7 := { stood := { row := fnFilesUptoRow, standIns := [], harness := (true, "adc444537e5e235a1c12790dd89a2b15b143492a964298a5ceb9355dab6fa37c"), looks := true }, kinds := [], alts := [], laidByText := true, laidKinds := [.data, .data, .data], laidTests := true, laidLooks := .later }
def FnFilesUptoCardSaid : Prop := Claim7.holds Tryd.pinned (.plain (OpenSpec.upto fnFilesSpec)) fnFilesUptoCard

/-- THE SECOND FORM's CARD OF 'laws.FnExactPrintPath'. -/
def fnExactPrintPathUptoCard : Claim7 := { stood := { row := fnExactPrintPathUptoRow, standIns := [], harness := (true, "adc444537e5e235a1c12790dd89a2b15b143492a964298a5ceb9355dab6fa37c"), looks := true }, kinds := [], alts := [], laidByText := true, laidKinds := [.data, .data, .data], laidTests := true, laidLooks := .later }
def FnExactPrintPathUptoCardSaid : Prop := Claim7.holds Tryd.pinned (.plain (OpenSpec.upto fnExactPrintPathSpec)) fnExactPrintPathUptoCard

/-- THE SECOND FORM's CARD OF 'laws.FnExactReadNumber'. -/
def fnExactReadNumberUptoCard : Claim7 := { stood := { row := fnExactReadNumberUptoRow, standIns := [], harness := (true, "adc444537e5e235a1c12790dd89a2b15b143492a964298a5ceb9355dab6fa37c"), looks := true }, kinds := [], alts := [], laidByText := true, laidKinds := [.data, .data, .data, .sentinel, .sentinel], laidTests := true, laidLooks := .later }
def FnExactReadNumberUptoCardSaid : Prop := Claim7.holds Tryd.pinned (.plain (OpenSpec.upto fnExactReadNumberSpec)) fnExactReadNumberUptoCard

/-- THE SECOND FORM's CARD OF 'laws.FnExactReadRuns'. -/
def fnExactReadRunsUptoCard : Claim7 := { stood := { row := fnExactReadRunsUptoRow, standIns := [], harness := (true, "adc444537e5e235a1c12790dd89a2b15b143492a964298a5ceb9355dab6fa37c"), looks := true }, kinds := [], alts := [], laidByText := true, laidKinds := [.data, .data, .data, .data, .sentinel, .sentinel, .pinned], laidTests := true, laidLooks := .later }
def FnExactReadRunsUptoCardSaid : Prop := Claim7.holds Tryd.pinned (.plain (OpenSpec.upto fnExactReadRunsSpec)) fnExactReadRunsUptoCard

/-- THE SECOND FORM's CARD OF 'laws.FnExactCountIn'. -/
def fnExactCountInUptoCard : Claim7 := { stood := { row := fnExactCountInUptoRow, standIns := [], harness := (true, "adc444537e5e235a1c12790dd89a2b15b143492a964298a5ceb9355dab6fa37c"), looks := true }, kinds := [], alts := [], laidByText := true, laidKinds := [.data, .data, .data, .data, .sentinel, .sentinel, .pinned], laidTests := true, laidLooks := .later }
def FnExactCountInUptoCardSaid : Prop := Claim7.holds Tryd.pinned (.plain (OpenSpec.upto fnExactCountInSpec)) fnExactCountInUptoCard

/-- THE SECOND FORM's CARD OF 'laws.FnExactParsePath'. -/
def fnExactParsePathUptoCard : Claim7 := { stood := { row := fnExactParsePathUptoRow, standIns := [], harness := (true, "adc444537e5e235a1c12790dd89a2b15b143492a964298a5ceb9355dab6fa37c"), looks := true }, kinds := [], alts := [], laidByText := true, laidKinds := [.data, .data, .data, .data, .sentinel, .sentinel, .pinned], laidTests := true, laidLooks := .later }
def FnExactParsePathUptoCardSaid : Prop := Claim7.holds Tryd.pinned (.plain (OpenSpec.upto fnExactParsePathSpec)) fnExactParsePathUptoCard

/-- THE SECOND FORM's CARD OF 'laws.FnExactFitsWindow'. -/
def fnExactFitsWindowUptoCard : Claim7 := { stood := { row := fnExactFitsWindowUptoRow, standIns := [], harness := (true, "adc444537e5e235a1c12790dd89a2b15b143492a964298a5ceb9355dab6fa37c"), looks := true }, kinds := [], alts := [], laidByText := true, laidKinds := [.data, .data, .data, .data, .sentinel, .sentinel, .pinned], laidTests := true, laidLooks := .later }
def FnExactFitsWindowUptoCardSaid : Prop := Claim7.holds Tryd.pinned (.plain (OpenSpec.upto fnExactFitsWindowSpec)) fnExactFitsWindowUptoCard
end Rows
end Go.Proofs.YtnhibkgoinnmcaaDoor
