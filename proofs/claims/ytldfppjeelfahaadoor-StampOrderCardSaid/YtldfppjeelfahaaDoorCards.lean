/-
  DERIVED. GIVEN WITH THE SEED: THE CARDS: each row of YtldfppjeelfahaaDoorRows.lean that lists a variable, with what it lists TIED to the program's text (the seventh form; the later family's looks); each row that meets fmt, with fmt's text TOLD by the authors' own Lean function (tested against real Go, not proved from fmt's source: count such statements apart). THE CARD IS WHAT COUNTS. Prove the row's statement (the work); the ties are given (YtldfppjeelfahaaDoorTie.lean); close each card by the builder's one call (the guide's Derived/Test/ToyasCard.lean, 'card_holds'). Laid BY PROGRAM, IN A SANDBOX (cutbox-door.mjs). By AI agents, Wed Nov 11 2026. No macro, syntax, notation, axiom, sorry.
-/
import Derived.Test.YtldfppjeelfahaaDoorRows
import GoSem.ClaimSeven
namespace Go.Proofs.YtldfppjeelfahaaDoor
namespace Rows

/-- THE TIED CARD OF 'ringerlaw05.StampMoments'. -/
def stampMomentsCard : Claim7 := { stood := { row := stampMomentsRow, standIns := [], harness := (true, "43854d41cb3339218c0b3d6cfe4572f0704b70268783064f811dccaa99a593aa"), looks := false }, kinds := [], alts := [], laidByText := true, laidKinds := [.data, .data, .data], laidTests := true, laidLooks := .later }
def StampMomentsCardSaid : Prop := Claim7.holds Tryd.pinned (.plain (OpenSpec.ofChange stampMomentsSpec)) stampMomentsCard

/-- THE TIED CARD OF 'ringerlaw05.StampClocks'. -/
def stampClocksCard : Claim7 := { stood := { row := stampClocksRow, standIns := [], harness := (true, "43854d41cb3339218c0b3d6cfe4572f0704b70268783064f811dccaa99a593aa"), looks := false }, kinds := [], alts := [], laidByText := true, laidKinds := [.data, .data, .data], laidTests := true, laidLooks := .later }
def StampClocksCardSaid : Prop := Claim7.holds Tryd.pinned (.plain (OpenSpec.ofChange stampClocksSpec)) stampClocksCard

/-- THE TIED CARD OF 'ringerlaw05.StampOrder'. -/
def stampOrderCard : Claim7 := { stood := { row := stampOrderRow, standIns := [], harness := (true, "43854d41cb3339218c0b3d6cfe4572f0704b70268783064f811dccaa99a593aa"), looks := false }, kinds := [], alts := [], laidByText := true, laidKinds := [.data, .data, .data], laidTests := true, laidLooks := .later }
def StampOrderCardSaid : Prop := Claim7.holds Tryd.pinned (.plain (OpenSpec.ofChange stampOrderSpec)) stampOrderCard

/-- THE SECOND FORM's CARD OF 'ringerlaw05.StampMoments'. -/
def stampMomentsUptoCard : Claim7 := { stood := { row := stampMomentsUptoRow, standIns := [], harness := (true, "43854d41cb3339218c0b3d6cfe4572f0704b70268783064f811dccaa99a593aa"), looks := false }, kinds := [], alts := [], laidByText := true, laidKinds := [.data, .data, .data], laidTests := true, laidLooks := .later }
def StampMomentsUptoCardSaid : Prop := Claim7.holds Tryd.pinned (.plain (OpenSpec.upto stampMomentsSpec)) stampMomentsUptoCard

/-- THE SECOND FORM's CARD OF 'ringerlaw05.StampClocks'. -/
def stampClocksUptoCard : Claim7 := { stood := { row := stampClocksUptoRow, standIns := [], harness := (true, "43854d41cb3339218c0b3d6cfe4572f0704b70268783064f811dccaa99a593aa"), looks := false }, kinds := [], alts := [], laidByText := true, laidKinds := [.data, .data, .data], laidTests := true, laidLooks := .later }
def StampClocksUptoCardSaid : Prop := Claim7.holds Tryd.pinned (.plain (OpenSpec.upto stampClocksSpec)) stampClocksUptoCard

/-- THE SECOND FORM's CARD OF 'ringerlaw05.StampOrder'. -/
def stampOrderUptoCard : Claim7 := { stood := { row := stampOrderUptoRow, standIns := [], harness := (true, "43854d41cb3339218c0b3d6cfe4572f0704b70268783064f811dccaa99a593aa"), looks := false }, kinds := [], alts := [], laidByText := true, laidKinds := [.data, .data, .data], laidTests := true, laidLooks := .later }
def StampOrderUptoCardSaid : Prop := Claim7.holds Tryd.pinned (.plain (OpenSpec.upto stampOrderSpec)) stampOrderUptoCard
end Rows
end Go.Proofs.YtldfppjeelfahaaDoor
