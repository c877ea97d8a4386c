/-
  DERIVED. GIVEN WITH THE SEED: THE CARDS: each row of YtppmgbjdbnedoafDoorRows.lean that lists a variable, with what it lists TIED to the program's text (the seventh form; the later family's looks); each row that meets fmt, with fmt's text TOLD by the authors' own Lean function (tested against real Go, not proved from fmt's source: count such statements apart). THE CARD IS WHAT COUNTS. Prove the row's statement (the work); the ties are given (YtppmgbjdbnedoafDoorTie.lean); close each card by the builder's one call (the guide's Derived/Test/ToyasCard.lean, 'card_holds'). Laid BY PROGRAM, IN A SANDBOX (cutbox-door.mjs). By AI agents, Wed Nov 11 2026. No macro, syntax, notation, axiom, sorry.
-/
import Derived.Test.YtppmgbjdbnedoafDoorRows
import GoSem.ClaimSeven
namespace Go.Proofs.YtppmgbjdbnedoafDoor
namespace Rows

/-- THE TIED CARD OF 'remouldlaw08.PlyMade'. -/
def plyMadeCard : Claim7 := { stood := { row := plyMadeRow, standIns := [], harness := (true, "de7a421f2b215e19b9d56d62f9c007a6120784c6ecb3391072c6e551edfef663"), looks := false }, kinds := [], alts := [], laidByText := true, laidKinds := [.data, .data], laidTests := true, laidLooks := .later }
def PlyMadeCardSaid : Prop := Claim7.holds Tryd.pinned (.plain (OpenSpec.ofChange plyMadeSpec)) plyMadeCard

/-- THE SECOND FORM's CARD OF 'remouldlaw08.PlyMade'. -/
def plyMadeUptoCard : Claim7 := { stood := { row := plyMadeUptoRow, standIns := [], harness := (true, "de7a421f2b215e19b9d56d62f9c007a6120784c6ecb3391072c6e551edfef663"), looks := false }, kinds := [], alts := [], laidByText := true, laidKinds := [.data, .data], laidTests := true, laidLooks := .later }
def PlyMadeUptoCardSaid : Prop := Claim7.holds Tryd.pinned (.plain (OpenSpec.upto plyMadeSpec)) plyMadeUptoCard
end Rows
end Go.Proofs.YtppmgbjdbnedoafDoor
