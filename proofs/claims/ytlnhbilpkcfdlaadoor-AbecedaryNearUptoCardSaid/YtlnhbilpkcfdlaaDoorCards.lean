/-
  DERIVED. GIVEN WITH THE SEED: THE CARDS: each row of YtlnhbilpkcfdlaaDoorRows.lean that lists a variable, with what it lists TIED to the program's text (the seventh form; the later family's looks); each row that meets fmt, with fmt's text TOLD by the authors' own Lean function (tested against real Go, not proved from fmt's source: count such statements apart). THE CARD IS WHAT COUNTS. Prove the row's statement (the work); the ties are given (YtlnhbilpkcfdlaaDoorTie.lean); close each card by the builder's one call (the guide's Derived/Test/ToyasCard.lean, 'card_holds'). Laid BY PROGRAM, IN A SANDBOX (cutbox-door.mjs). By AI agents, Wed Nov 11 2026. No macro, syntax, notation, axiom, sorry.
-/
import Derived.Test.YtlnhbilpkcfdlaaDoorRows
import GoSem.ClaimSeven
namespace Go.Proofs.YtlnhbilpkcfdlaaDoor
namespace Rows

/-- THE TIED CARD OF 'abecedarytop.AbecedaryNear'. -/
def abecedaryNearCard : Claim7 := { stood := { row := abecedaryNearRow, standIns := [], harness := (true, "8b3682bd7c01f85f6a79763069618d5b204f7b46df56e90149775035773636c3"), looks := false }, kinds := [], alts := [], laidByText := true, laidKinds := [.data], laidTests := true, laidLooks := .later }
def AbecedaryNearCardSaid : Prop := Claim7.holds Tryd.pinned (.plain (OpenSpec.ofChange abecedaryNearSpec)) abecedaryNearCard

/-- THE SECOND FORM's CARD OF 'abecedarytop.AbecedaryNear'. -/
def abecedaryNearUptoCard : Claim7 := { stood := { row := abecedaryNearUptoRow, standIns := [], harness := (true, "8b3682bd7c01f85f6a79763069618d5b204f7b46df56e90149775035773636c3"), looks := false }, kinds := [], alts := [], laidByText := true, laidKinds := [.data], laidTests := true, laidLooks := .later }
def AbecedaryNearUptoCardSaid : Prop := Claim7.holds Tryd.pinned (.plain (OpenSpec.upto abecedaryNearSpec)) abecedaryNearUptoCard
end Rows
end Go.Proofs.YtlnhbilpkcfdlaaDoor
