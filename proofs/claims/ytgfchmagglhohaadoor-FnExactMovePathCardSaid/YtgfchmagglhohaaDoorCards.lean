/-
  DERIVED. GIVEN WITH THE SEED: THE CARDS: each row of YtgfchmagglhohaaDoorRows.lean that lists a variable, with what it lists TIED to the program's text (the seventh form; the later family's looks); each row that meets fmt, with fmt's text TOLD by the authors' own Lean function (tested against real Go, not proved from fmt's source: count such statements apart). THE CARD IS WHAT COUNTS. Prove the row's statement (the work); the ties are given (YtgfchmagglhohaaDoorTie.lean); close each card by the builder's one call (the guide's Derived/Test/ToyasCard.lean, 'card_holds'). Laid BY PROGRAM, IN A SANDBOX (cutbox-door.mjs). By AI agents, Wed Nov 11 2026. No macro, syntax, notation, axiom, sorry.
-/
import Derived.Test.YtgfchmagglhohaaDoorRows
import GoSem.ClaimSeven
namespace Go.Proofs.YtgfchmagglhohaaDoor
namespace Rows

/-- THE TIED CARD OF 'laws.FnExactMovePath'. -/
def fnExactMovePathCard : Claim7 := { stood := { row := fnExactMovePathRow, standIns := [], harness := (true, "722ba42263159506e94755c3515b8e2dc21de2bcf790227db722c7f3047d4612"), looks := true }, kinds := [], alts := [], laidByText := true, laidKinds := [.data, .data, .data, .data, .sentinel, .sentinel, .pinned], laidTests := true, laidLooks := .later }
def FnExactMovePathCardSaid : Prop := Claim7.holds Tryd.pinned (.plain (OpenSpec.ofChange fnExactMovePathSpec)) fnExactMovePathCard

/-- THE TIED CARD OF 'laws.FnExactParsePath'. -/
def fnExactParsePathCard : Claim7 := { stood := { row := fnExactParsePathRow, standIns := [], harness := (true, "722ba42263159506e94755c3515b8e2dc21de2bcf790227db722c7f3047d4612"), looks := true }, kinds := [], alts := [], laidByText := true, laidKinds := [.data, .data, .data, .data, .sentinel, .sentinel, .pinned], laidTests := true, laidLooks := .later }
def FnExactParsePathCardSaid : Prop := Claim7.holds Tryd.pinned (.plain (OpenSpec.ofChange fnExactParsePathSpec)) fnExactParsePathCard

/-- THE SECOND FORM's CARD OF 'laws.FnExactMovePath'. -/
def fnExactMovePathUptoCard : Claim7 := { stood := { row := fnExactMovePathUptoRow, standIns := [], harness := (true, "722ba42263159506e94755c3515b8e2dc21de2bcf790227db722c7f3047d4612"), looks := true }, kinds := [], alts := [], laidByText := true, laidKinds := [.data, .data, .data, .data, .sentinel, .sentinel, .pinned], laidTests := true, laidLooks := .later }
def FnExactMovePathUptoCardSaid : Prop := Claim7.holds Tryd.pinned (.plain (OpenSpec.upto fnExactMovePathSpec)) fnExactMovePathUptoCard

/-- THE SECOND FORM's CARD OF 'laws.FnExactParsePath'. -/
def fnExactParsePathUptoCard : Claim7 := { stood := { row := fnExactParsePathUptoRow, standIns := [], harness := (true, "722ba42263159506e94755c3515b8e2dc21de2bcf790227db722c7f3047d4612"), looks := true }, kinds := [], alts := [], laidByText := true, laidKinds := [.data, .data, .data, .data, .sentinel, .sentinel, .pinned], laidTests := true, laidLooks := .later }
def FnExactParsePathUptoCardSaid : Prop := Claim7.holds Tryd.pinned (.plain (OpenSpec.upto fnExactParsePathSpec)) fnExactParsePathUptoCard
end Rows
end Go.Proofs.YtgfchmagglhohaaDoor
