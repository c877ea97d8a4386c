/-
  DERIVED. GIVEN WITH THE SEED: THE CARDS: each row of YtppmgbjdbnedoaeDoorRows.lean that lists a variable, with what it lists TIED to the program's text (the seventh form; the later family's looks); each row that meets fmt, with fmt's text TOLD by the authors' own Lean function (tested against real Go, not proved from fmt's source: count such statements apart). THE CARD IS WHAT COUNTS. Prove the row's statement (the work); the ties are given (YtppmgbjdbnedoaeDoorTie.lean); close each card by the builder's one call (the guide's Derived/Test/ToyasCard.lean, 'card_holds'). Laid BY PROGRAM, IN A SANDBOX (cutbox-door.mjs). By AI agents, Wed Nov 11 2026. No macro, syntax, notation, axiom, sorry.
-/
import Derived.Test.YtppmgbjdbnedoaeDoorRows
import GoSem.ClaimSeven
namespace Go.Proofs.YtppmgbjdbnedoaeDoor
namespace Rows

/-- THE TIED CARD OF 'remouldlaw08.PlyFroms'. -/
def plyFromsCard : Claim7 := { stood := { row := plyFromsRow, standIns := [], harness := (true, "dd3c5b73fecc316967c1df299ae9870c6d4360a7787c9172f07cb18c7f2a4dc7"), looks := false }, kinds := [], alts := [], laidByText := true, laidKinds := [.data, .data], laidTests := true, laidLooks := .later }
def PlyFromsCardSaid : Prop := Claim7.holds Tryd.pinned (.plain (OpenSpec.ofChange plyFromsSpec)) plyFromsCard

/-- THE SECOND FORM's CARD OF 'remouldlaw08.PlyFroms'. -/
def plyFromsUptoCard : Claim7 := { stood := { row := plyFromsUptoRow, standIns := [], harness := (true, "dd3c5b73fecc316967c1df299ae9870c6d4360a7787c9172f07cb18c7f2a4dc7"), looks := false }, kinds := [], alts := [], laidByText := true, laidKinds := [.data, .data], laidTests := true, laidLooks := .later }
def PlyFromsUptoCardSaid : Prop := Claim7.holds Tryd.pinned (.plain (OpenSpec.upto plyFromsSpec)) plyFromsUptoCard
end Rows
end Go.Proofs.YtppmgbjdbnedoaeDoor
