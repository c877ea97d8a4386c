/-
  DERIVED. GIVEN WITH THE SEED: THE CARDS: each row of YtppmgbjdbnedoajDoorRows.lean that lists a variable, with what it lists TIED to the program's text (the seventh form; the later family's looks); each row that meets fmt, with fmt's text TOLD by the authors' own Lean function (tested against real Go, not proved from fmt's source: count such statements apart). THE CARD IS WHAT COUNTS. Prove the row's statement (the work); the ties are given (YtppmgbjdbnedoajDoorTie.lean); close each card by the builder's one call (the guide's Derived/Test/ToyasCard.lean, 'card_holds'). Laid BY PROGRAM, IN A SANDBOX (cutbox-door.mjs). By AI agents, Wed Nov 11 2026. No macro, syntax, notation, axiom, sorry.
-/
import Derived.Test.YtppmgbjdbnedoajDoorRows
import GoSem.ClaimSeven
namespace Go.Proofs.YtppmgbjdbnedoajDoor
namespace Rows

/-- THE TIED CARD OF 'remouldlaw08.PlyPressed'. -/
def plyPressedCard : Claim7 := { stood := { row := plyPressedRow, standIns := [], harness := (true, "24c3f9303b1b049f8340f28539552bdd3f67e5348d3a70417c4a0471f5144f44"), looks := false }, kinds := [], alts := [], laidByText := true, laidKinds := [.data, .data], laidTests := true, laidLooks := .later }
def PlyPressedCardSaid : Prop := Claim7.holds Tryd.pinned (.plain (OpenSpec.ofChange plyPressedSpec)) plyPressedCard

/-- THE SECOND FORM's CARD OF 'remouldlaw08.PlyPressed'. -/
def plyPressedUptoCard : Claim7 := { stood := { row := plyPressedUptoRow, standIns := [], harness := (true, "24c3f9303b1b049f8340f28539552bdd3f67e5348d3a70417c4a0471f5144f44"), looks := false }, kinds := [], alts := [], laidByText := true, laidKinds := [.data, .data], laidTests := true, laidLooks := .later }
def PlyPressedUptoCardSaid : Prop := Claim7.holds Tryd.pinned (.plain (OpenSpec.upto plyPressedSpec)) plyPressedUptoCard
end Rows
end Go.Proofs.YtppmgbjdbnedoajDoor
