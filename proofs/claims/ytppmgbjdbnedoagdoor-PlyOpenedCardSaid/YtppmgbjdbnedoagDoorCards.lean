/-
  DERIVED. GIVEN WITH THE SEED: THE CARDS: each row of YtppmgbjdbnedoagDoorRows.lean that lists a variable, with what it lists TIED to the program's text (the seventh form; the later family's looks); each row that meets fmt, with fmt's text TOLD by the authors' own Lean function (tested against real Go, not proved from fmt's source: count such statements apart). THE CARD IS WHAT COUNTS. Prove the row's statement (the work); the ties are given (YtppmgbjdbnedoagDoorTie.lean); close each card by the builder's one call (the guide's Derived/Test/ToyasCard.lean, 'card_holds'). Laid BY PROGRAM, IN A SANDBOX (cutbox-door.mjs). By AI agents, Wed Nov 11 2026. No macro, syntax, notation, axiom, sorry.
-/
import Derived.Test.YtppmgbjdbnedoagDoorRows
import GoSem.ClaimSeven
namespace Go.Proofs.YtppmgbjdbnedoagDoor
namespace Rows

/-- THE TIED CARD OF 'remouldlaw08.PlyOpened'. -/
def plyOpenedCard : Claim7 := { stood := { row := plyOpenedRow, standIns := [], harness := (true, "223cf159564a78571e055d70e3a4cfb7fe82596de7f7ec96759c6a02b054e6f6"), looks := false }, kinds := [], alts := [], laidByText := true, laidKinds := [.data, .data], laidTests := true, laidLooks := .later }
def PlyOpenedCardSaid : Prop := Claim7.holds Tryd.pinned (.plain (OpenSpec.ofChange plyOpenedSpec)) plyOpenedCard

/-- THE SECOND FORM's CARD OF 'remouldlaw08.PlyOpened'. -/
def plyOpenedUptoCard : Claim7 := { stood := { row := plyOpenedUptoRow, standIns := [], harness := (true, "223cf159564a78571e055d70e3a4cfb7fe82596de7f7ec96759c6a02b054e6f6"), looks := false }, kinds := [], alts := [], laidByText := true, laidKinds := [.data, .data], laidTests := true, laidLooks := .later }
def PlyOpenedUptoCardSaid : Prop := Claim7.holds Tryd.pinned (.plain (OpenSpec.upto plyOpenedSpec)) plyOpenedUptoCard
end Rows
end Go.Proofs.YtppmgbjdbnedoagDoor
