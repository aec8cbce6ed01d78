/-
  DERIVED. GIVEN WITH THE SEED: THE CARDS: each row of YtgfchmagglhohaaGreatDoorRows.lean that lists a variable, with what it lists TIED to the program's text (the seventh form; the later family's looks); each row that meets fmt, with fmt's text TOLD by the authors' own Lean function (tested against real Go, not proved from fmt's source: count such statements apart). THE CARD IS WHAT COUNTS. Prove the row's statement (the work); the ties are given (YtgfchmagglhohaaGreatDoorTie.lean); close each card by the builder's one call (the guide's Derived/Test/ToyasCard.lean, 'card_holds'). Laid BY PROGRAM, IN A SANDBOX (cutbox-door.mjs). By AI agents, Wed Nov 11 2026. No macro, syntax, notation, axiom, sorry.
-/
import Derived.Test.YtgfchmagglhohaaGreatDoorRows
import GoSem.ClaimSeven
namespace Go.Proofs.YtgfchmagglhohaaGreatDoor
namespace Rows

/-- THE TIED CARD OF 'laws.FnRuns'. -/
def fnRunsCard : Claim7 := { stood := { row := fnRunsRow, standIns := [], harness := (true, "13742ff60ebdca116fcfe556ed49df439607de04dc04ac1f6eda776bad92e3f2"), looks := true }, kinds := [], alts := [], laidByText := true, laidKinds := [.data, .data, .data, .data, .sentinel, .sentinel, .pinned], laidTests := true, laidLooks := .later }
def FnRunsCardSaid : Prop := Claim7.holds Tryz.pinned (.plain (OpenSpec.ofChange fnRunsSpec)) fnRunsCard

/-- THE TIED CARD OF 'laws.FnNumbers'. -/
def fnNumbersCard : Claim7 := { stood := { row := fnNumbersRow, standIns := [], harness := (true, "13742ff60ebdca116fcfe556ed49df439607de04dc04ac1f6eda776bad92e3f2"), looks := true }, kinds := [], alts := [], laidByText := true, laidKinds := [.data, .data, .data], laidTests := true, laidLooks := .later }
def FnNumbersCardSaid : Prop := Claim7.holds Tryz.pinned (.plain (OpenSpec.ofChange fnNumbersSpec)) fnNumbersCard

/-- THE TIED CARD OF 'laws.FnFractions'. -/
def fnFractionsCard : Claim7 := { stood := { row := fnFractionsRow, standIns := [], harness := (true, "13742ff60ebdca116fcfe556ed49df439607de04dc04ac1f6eda776bad92e3f2"), looks := true }, kinds := [], alts := [], laidByText := true, laidKinds := [.data, .data, .data], laidTests := true, laidLooks := .later }
def FnFractionsCardSaid : Prop := Claim7.holds Tryz.pinned (.plain (OpenSpec.ofChange fnFractionsSpec)) fnFractionsCard

/-- THE TIED CARD OF 'laws.FnExactInkOf'. -/
def fnExactInkOfCard : Claim7 := { stood := { row := fnExactInkOfRow, standIns := [], harness := (true, "13742ff60ebdca116fcfe556ed49df439607de04dc04ac1f6eda776bad92e3f2"), looks := true }, kinds := [], alts := [], laidByText := true, laidKinds := [.data, .data, .data, .data, .sentinel, .sentinel, .pinned], laidTests := true, laidLooks := .later }
def FnExactInkOfCardSaid : Prop := Claim7.holds Tryz.pinned (.plain (OpenSpec.ofChange fnExactInkOfSpec)) fnExactInkOfCard

/-- THE SECOND FORM's CARD OF 'laws.FnRuns'. -/
def fnRunsUptoCard : Claim7 := { stood := { row := fnRunsUptoRow, standIns := [], harness := (true, "13742ff60ebdca116fcfe556ed49df439607de04dc04ac1f6eda776bad92e3f2"), looks := true }, kinds := [], alts := [], laidByText := true, laidKinds := [.data, .data, .data, .data, .sentinel, .sentinel, .pinned], laidTests := true, laidLooks := .later }
def FnRunsUptoCardSaid : Prop := Claim7.holds Tryz.pinned (.plain (OpenSpec.upto fnRunsSpec)) fnRunsUptoCard

/-- THE SECOND FORM's CARD OF 'laws.FnNumbers'. -/
def fnNumbersUptoCard : Claim7 := { stood := { row := fnNumbersUptoRow, standIns := [], harness := (true, "13742ff60ebdca116fcfe556ed49df439607de04dc04ac1f6eda776bad92e3f2"), looks := true }, kinds := [], alts := [], laidByText := true, laidKinds := [.data, .data, .data], laidTests := true, laidLooks := .later }
def FnNumbersUptoCardSaid : Prop := Claim7.holds Tryz.pinned (.plain (OpenSpec.upto fnNumbersSpec)) fnNumbersUptoCard

/-- THE SECOND FORM's CARD OF 'laws.FnFractions'. -/
def fnFractionsUptoCard : Claim7 := { stood := { row := fnFractionsUptoRow, standIns := [], harness := (true, "13742ff60ebdca116fcfe556ed49df439607de04dc04ac1f6eda776bad92e3f2"), looks := true }, kinds := [], alts := [], laidByText := true, laidKinds := [.data, .data, .data], laidTests := true, laidLooks := .later }
def FnFractionsUptoCardSaid : Prop := Claim7.holds Tryz.pinned (.plain (OpenSpec.upto fnFractionsSpec)) fnFractionsUptoCard

/-- THE SECOND FORM's CARD OF 'laws.FnExactInkOf'. -/
def fnExactInkOfUptoCard : Claim7 := { stood := { row := fnExactInkOfUptoRow, standIns := [], harness := (true, "13742ff60ebdca116fcfe556ed49df439607de04dc04ac1f6eda776bad92e3f2"), looks := true }, kinds := [], alts := [], laidByText := true, laidKinds := [.data, .data, .data, .data, .sentinel, .sentinel, .pinned], laidTests := true, laidLooks := .later }
def FnExactInkOfUptoCardSaid : Prop := Claim7.holds Tryz.pinned (.plain (OpenSpec.upto fnExactInkOfSpec)) fnExactInkOfUptoCard
end Rows
end Go.Proofs.YtgfchmagglhohaaGreatDoor
