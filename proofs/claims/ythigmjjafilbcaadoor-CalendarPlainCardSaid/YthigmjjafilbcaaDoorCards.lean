/-
  DERIVED. GIVEN WITH THE SEED: THE CARDS: each row of YthigmjjafilbcaaDoorRows.lean that lists a variable, with what it lists TIED to the program's text (the seventh form; the later family's looks); each row that meets fmt, with fmt's text TOLD by the authors' own Lean function (tested against real Go, not proved from fmt's source: count such statements apart). THE CARD IS WHAT COUNTS. Prove the row's statement (the work); the ties are given (YthigmjjafilbcaaDoorTie.lean); close each card by the builder's one call (the guide's Derived/Test/ToyasCard.lean, 'card_holds'). Laid BY PROGRAM, IN A SANDBOX (cutbox-door.mjs). By AI agents, Wed Nov 11 2026. No macro, syntax, notation, axiom, sorry.
-/
import Derived.Test.YthigmjjafilbcaaDoorRows
import GoSem.ClaimSeven
namespace Go.Proofs.YthigmjjafilbcaaDoor
namespace Rows

/-- THE TIED CARD OF 'ringerlaw41.CalendarMoves'. -/
def calendarMovesCard : Claim7 := { stood := { row := calendarMovesRow, standIns := [], harness := (true, "19400c932f1e61b6739ce1317e4484ed6d7d468ec5014a4f0be7f706a4ecdc4f"), looks := false }, kinds := [], alts := [], laidByText := true, laidKinds := [.data], laidTests := true, laidLooks := .later }
def CalendarMovesCardSaid : Prop := Claim7.holds Tryd.pinned (.plain (OpenSpec.ofChange calendarMovesSpec)) calendarMovesCard

/-- THE TIED CARD OF 'ringerlaw41.CalendarPlain'. -/
def calendarPlainCard : Claim7 := { stood := { row := calendarPlainRow, standIns := [], harness := (true, "19400c932f1e61b6739ce1317e4484ed6d7d468ec5014a4f0be7f706a4ecdc4f"), looks := false }, kinds := [], alts := [], laidByText := true, laidKinds := [.data], laidTests := true, laidLooks := .later }
def CalendarPlainCardSaid : Prop := Claim7.holds Tryd.pinned (.plain (OpenSpec.ofChange calendarPlainSpec)) calendarPlainCard

/-- THE SECOND FORM's CARD OF 'ringerlaw41.CalendarMoves'. -/
def calendarMovesUptoCard : Claim7 := { stood := { row := calendarMovesUptoRow, standIns := [], harness := (true, "19400c932f1e61b6739ce1317e4484ed6d7d468ec5014a4f0be7f706a4ecdc4f"), looks := false }, kinds := [], alts := [], laidByText := true, laidKinds := [.data], laidTests := true, laidLooks := .later }
def CalendarMovesUptoCardSaid : Prop := Claim7.holds Tryd.pinned (.plain (OpenSpec.upto calendarMovesSpec)) calendarMovesUptoCard

/-- THE SECOND FORM's CARD OF 'ringerlaw41.CalendarPlain'. -/
def calendarPlainUptoCard : Claim7 := { stood := { row := calendarPlainUptoRow, standIns := [], harness := (true, "19400c932f1e61b6739ce1317e4484ed6d7d468ec5014a4f0be7f706a4ecdc4f"), looks := false }, kinds := [], alts := [], laidByText := true, laidKinds := [.data], laidTests := true, laidLooks := .later }
def CalendarPlainUptoCardSaid : Prop := Claim7.holds Tryd.pinned (.plain (OpenSpec.upto calendarPlainSpec)) calendarPlainUptoCard
end Rows
end Go.Proofs.YthigmjjafilbcaaDoor
