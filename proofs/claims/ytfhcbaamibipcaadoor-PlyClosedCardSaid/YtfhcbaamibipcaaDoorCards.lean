/-
  DERIVED. GIVEN WITH THE SEED: THE CARDS: each row of YtfhcbaamibipcaaDoorRows.lean that lists a variable, with what it lists TIED to the program's text (the seventh form; the later family's looks); each row that meets fmt, with fmt's text TOLD by the authors' own Lean function (tested against real Go, not proved from fmt's source: count such statements apart). THE CARD IS WHAT COUNTS. Prove the row's statement (the work); the ties are given (YtfhcbaamibipcaaDoorTie.lean); close each card by the builder's one call (the guide's Derived/Test/ToyasCard.lean, 'card_holds'). Laid BY PROGRAM, IN A SANDBOX (cutbox-door.mjs). By AI agents, Wed Nov 11 2026. No macro, syntax, notation, axiom, sorry.
-/
import Derived.Test.YtfhcbaamibipcaaDoorRows
import GoSem.ClaimSeven
namespace Go.Proofs.YtfhcbaamibipcaaDoor
namespace Rows

/-- THE TIED CARD OF 'remouldlaw08.PlyClosed'. -/
def plyClosedCard : Claim7 := { stood := { row := plyClosedRow, standIns := [], harness := (true, "c6570ba20df1ebdb522c91a21681414511186e3d87a64b3df8fa553100841538"), looks := false }, kinds := [], alts := [], laidByText := true, laidKinds := [.data, .data], laidTests := true, laidLooks := .later }
def PlyClosedCardSaid : Prop := Claim7.holds Tryd.pinned (.plain (OpenSpec.ofChange plyClosedSpec)) plyClosedCard

/-- THE SECOND FORM's CARD OF 'remouldlaw08.PlyClosed'. -/
def plyClosedUptoCard : Claim7 := { stood := { row := plyClosedUptoRow, standIns := [], harness := (true, "c6570ba20df1ebdb522c91a21681414511186e3d87a64b3df8fa553100841538"), looks := false }, kinds := [], alts := [], laidByText := true, laidKinds := [.data, .data], laidTests := true, laidLooks := .later }
def PlyClosedUptoCardSaid : Prop := Claim7.holds Tryd.pinned (.plain (OpenSpec.upto plyClosedSpec)) plyClosedUptoCard
end Rows
end Go.Proofs.YtfhcbaamibipcaaDoor
