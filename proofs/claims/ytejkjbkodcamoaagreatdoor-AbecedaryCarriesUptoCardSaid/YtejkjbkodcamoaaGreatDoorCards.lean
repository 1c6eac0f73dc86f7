/-
  DERIVED. GIVEN WITH THE SEED: THE CARDS: each row of YtejkjbkodcamoaaGreatDoorRows.lean that lists a variable, with what it lists TIED to the program's text (the seventh form; the later family's looks); each row that meets fmt, with fmt's text TOLD by the authors' own Lean function (tested against real Go, not proved from fmt's source: count such statements apart). THE CARD IS WHAT COUNTS. Prove the row's statement (the work); the ties are given (YtejkjbkodcamoaaGreatDoorTie.lean); close each card by the builder's one call (the guide's Derived/Test/ToyasCard.lean, 'card_holds'). Laid BY PROGRAM, IN A SANDBOX (cutbox-door.mjs). By AI agents, Wed Nov 11 2026. No macro, syntax, notation, axiom, sorry.
-/
import Derived.Test.YtejkjbkodcamoaaGreatDoorRows
import GoSem.ClaimSeven
namespace Go.Proofs.YtejkjbkodcamoaaGreatDoor
namespace Rows

/-- THE TIED CARD OF 'abecedarytop.AbecedaryCarries'. -/
def abecedaryCarriesCard : Claim7 := { stood := { row := abecedaryCarriesRow, standIns := [], harness := (true, "1d60d898dbe3498395e5bec58d46e2a7d3a5a2d7aa7212f61874787d69989fbf"), looks := false }, kinds := [], alts := [], laidByText := true, laidKinds := [.data], laidTests := true, laidLooks := .later }
def AbecedaryCarriesCardSaid : Prop := Claim7.holds Tryz.pinned (.plain (OpenSpec.ofChange abecedaryCarriesSpec)) abecedaryCarriesCard

/-- THE SECOND FORM's CARD OF 'abecedarytop.AbecedaryCarries'. -/
def abecedaryCarriesUptoCard : Claim7 := { stood := { row := abecedaryCarriesUptoRow, standIns := [], harness := (true, "1d60d898dbe3498395e5bec58d46e2a7d3a5a2d7aa7212f61874787d69989fbf"), looks := false }, kinds := [], alts := [], laidByText := true, laidKinds := [.data], laidTests := true, laidLooks := .later }
def AbecedaryCarriesUptoCardSaid : Prop := Claim7.holds Tryz.pinned (.plain (OpenSpec.upto abecedaryCarriesSpec)) abecedaryCarriesUptoCard
end Rows
end Go.Proofs.YtejkjbkodcamoaaGreatDoor
