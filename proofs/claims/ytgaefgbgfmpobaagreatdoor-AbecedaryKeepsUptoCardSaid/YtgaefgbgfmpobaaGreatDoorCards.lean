/-
  DERIVED. GIVEN WITH THE SEED: THE CARDS: each row of YtgaefgbgfmpobaaGreatDoorRows.lean that lists a variable, with what it lists TIED to the program's text (the seventh form; the later family's looks); each row that meets fmt, with fmt's text TOLD by the authors' own Lean function (tested against real Go, not proved from fmt's source: count such statements apart). THE CARD IS WHAT COUNTS. Prove the row's statement (the work); the ties are given (YtgaefgbgfmpobaaGreatDoorTie.lean); close each card by the builder's one call (the guide's Derived/Test/ToyasCard.lean, 'card_holds'). Laid BY PROGRAM, IN A SANDBOX (cutbox-door.mjs). By AI agents, Wed Nov 11 2026. No macro, syntax, notation, axiom, sorry.
-/
import Derived.Test.YtgaefgbgfmpobaaGreatDoorRows
import GoSem.ClaimSeven
namespace Go.Proofs.YtgaefgbgfmpobaaGreatDoor
namespace Rows

/-- THE TIED CARD OF 'abecedarytop.AbecedaryKeeps'. -/
def abecedaryKeepsCard : Claim7 := { stood := { row := abecedaryKeepsRow, standIns := [], harness := (true, "5495e633c79088602c8be3a9d7089f034bf1939a0bf8990088fff125b568a9fe"), looks := false }, kinds := [], alts := [], laidByText := true, laidKinds := [.data], laidTests := true, laidLooks := .later }
def AbecedaryKeepsCardSaid : Prop := Claim7.holds Tryz.pinned (.plain (OpenSpec.ofChange abecedaryKeepsSpec)) abecedaryKeepsCard

/-- THE SECOND FORM's CARD OF 'abecedarytop.AbecedaryKeeps'. -/
def abecedaryKeepsUptoCard : Claim7 := { stood := { row := abecedaryKeepsUptoRow, standIns := [], harness := (true, "5495e633c79088602c8be3a9d7089f034bf1939a0bf8990088fff125b568a9fe"), looks := false }, kinds := [], alts := [], laidByText := true, laidKinds := [.data], laidTests := true, laidLooks := .later }
def AbecedaryKeepsUptoCardSaid : Prop := Claim7.holds Tryz.pinned (.plain (OpenSpec.upto abecedaryKeepsSpec)) abecedaryKeepsUptoCard
end Rows
end Go.Proofs.YtgaefgbgfmpobaaGreatDoor
