/-
  DERIVED. GIVEN WITH THE SEED: THE CARDS: each row of YtppmgbjdbnedoamDoorRows.lean that lists a variable, with what it lists TIED to the program's text (the seventh form; the later family's looks); each row that meets fmt, with fmt's text TOLD by the authors' own Lean function (tested against real Go, not proved from fmt's source: count such statements apart). THE CARD IS WHAT COUNTS. Prove the row's statement (the work); the ties are given (YtppmgbjdbnedoamDoorTie.lean); close each card by the builder's one call (the guide's Derived/Test/ToyasCard.lean, 'card_holds'). Laid BY PROGRAM, IN A SANDBOX (cutbox-door.mjs). By AI agents, Wed Nov 11 2026. No macro, syntax, notation, axiom, sorry.
-/
import Derived.Test.YtppmgbjdbnedoamDoorRows
import GoSem.ClaimSeven
namespace Go.Proofs.YtppmgbjdbnedoamDoor
namespace Rows

/-- THE TIED CARD OF 'remouldlaw08.PlyJoined'. -/
def plyJoinedCard : Claim7 := { stood := { row := plyJoinedRow, standIns := [], harness := (true, "435af3d282a45ec585615f39703eec0194f8ae40359b69aab652f0c69f49f34d"), looks := false }, kinds := [], alts := [], laidByText := true, laidKinds := [.data, .data], laidTests := true, laidLooks := .later }
def PlyJoinedCardSaid : Prop := Claim7.holds Tryd.pinned (.plain (OpenSpec.ofChange plyJoinedSpec)) plyJoinedCard

/-- THE SECOND FORM's CARD OF 'remouldlaw08.PlyJoined'. -/
def plyJoinedUptoCard : Claim7 := { stood := { row := plyJoinedUptoRow, standIns := [], harness := (true, "435af3d282a45ec585615f39703eec0194f8ae40359b69aab652f0c69f49f34d"), looks := false }, kinds := [], alts := [], laidByText := true, laidKinds := [.data, .data], laidTests := true, laidLooks := .later }
def PlyJoinedUptoCardSaid : Prop := Claim7.holds Tryd.pinned (.plain (OpenSpec.upto plyJoinedSpec)) plyJoinedUptoCard
end Rows
end Go.Proofs.YtppmgbjdbnedoamDoor
