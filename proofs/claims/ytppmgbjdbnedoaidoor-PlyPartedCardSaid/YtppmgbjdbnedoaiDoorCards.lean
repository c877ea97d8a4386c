/-
  DERIVED. GIVEN WITH THE SEED: THE CARDS: each row of YtppmgbjdbnedoaiDoorRows.lean that lists a variable, with what it lists TIED to the program's text (the seventh form; the later family's looks); each row that meets fmt, with fmt's text TOLD by the authors' own Lean function (tested against real Go, not proved from fmt's source: count such statements apart). THE CARD IS WHAT COUNTS. Prove the row's statement (the work); the ties are given (YtppmgbjdbnedoaiDoorTie.lean); close each card by the builder's one call (the guide's Derived/Test/ToyasCard.lean, 'card_holds'). Laid BY PROGRAM, IN A SANDBOX (cutbox-door.mjs). By AI agents, Wed Nov 11 2026. No macro, syntax, notation, axiom, sorry.
-/
import Derived.Test.YtppmgbjdbnedoaiDoorRows
import GoSem.ClaimSeven
namespace Go.Proofs.YtppmgbjdbnedoaiDoor
namespace Rows

/-- THE TIED CARD OF 'remouldlaw08.PlyParted'. -/
def plyPartedCard : Claim7 := { stood := { row := plyPartedRow, standIns := [], harness := (true, "69191ed36596f8941e1a4b62077eb365a7ff1a56e1f434ba8392a4c1e46b5383"), looks := false }, kinds := [], alts := [], laidByText := true, laidKinds := [.data, .data], laidTests := true, laidLooks := .later }
def PlyPartedCardSaid : Prop := Claim7.holds Tryd.pinned (.plain (OpenSpec.ofChange plyPartedSpec)) plyPartedCard

/-- THE SECOND FORM's CARD OF 'remouldlaw08.PlyParted'. -/
def plyPartedUptoCard : Claim7 := { stood := { row := plyPartedUptoRow, standIns := [], harness := (true, "69191ed36596f8941e1a4b62077eb365a7ff1a56e1f434ba8392a4c1e46b5383"), looks := false }, kinds := [], alts := [], laidByText := true, laidKinds := [.data, .data], laidTests := true, laidLooks := .later }
def PlyPartedUptoCardSaid : Prop := Claim7.holds Tryd.pinned (.plain (OpenSpec.upto plyPartedSpec)) plyPartedUptoCard
end Rows
end Go.Proofs.YtppmgbjdbnedoaiDoor
