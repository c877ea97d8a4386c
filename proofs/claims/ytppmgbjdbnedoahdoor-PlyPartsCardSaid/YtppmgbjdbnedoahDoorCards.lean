/-
  DERIVED. GIVEN WITH THE SEED: THE CARDS: each row of YtppmgbjdbnedoahDoorRows.lean that lists a variable, with what it lists TIED to the program's text (the seventh form; the later family's looks); each row that meets fmt, with fmt's text TOLD by the authors' own Lean function (tested against real Go, not proved from fmt's source: count such statements apart). THE CARD IS WHAT COUNTS. Prove the row's statement (the work); the ties are given (YtppmgbjdbnedoahDoorTie.lean); close each card by the builder's one call (the guide's Derived/Test/ToyasCard.lean, 'card_holds'). Laid BY PROGRAM, IN A SANDBOX (cutbox-door.mjs). By AI agents, Wed Nov 11 2026. No macro, syntax, notation, axiom, sorry.
-/
import Derived.Test.YtppmgbjdbnedoahDoorRows
import GoSem.ClaimSeven
namespace Go.Proofs.YtppmgbjdbnedoahDoor
namespace Rows

/-- THE TIED CARD OF 'remouldlaw08.PlyParts'. -/
def plyPartsCard : Claim7 := { stood := { row := plyPartsRow, standIns := [], harness := (true, "3a1891a620155a34496b507ab4e28a0aff56f4987aba439f8169fab0f140785b"), looks := false }, kinds := [], alts := [], laidByText := true, laidKinds := [.data, .data], laidTests := true, laidLooks := .later }
def PlyPartsCardSaid : Prop := Claim7.holds Tryd.pinned (.plain (OpenSpec.ofChange plyPartsSpec)) plyPartsCard

/-- THE SECOND FORM's CARD OF 'remouldlaw08.PlyParts'. -/
def plyPartsUptoCard : Claim7 := { stood := { row := plyPartsUptoRow, standIns := [], harness := (true, "3a1891a620155a34496b507ab4e28a0aff56f4987aba439f8169fab0f140785b"), looks := false }, kinds := [], alts := [], laidByText := true, laidKinds := [.data, .data], laidTests := true, laidLooks := .later }
def PlyPartsUptoCardSaid : Prop := Claim7.holds Tryd.pinned (.plain (OpenSpec.upto plyPartsSpec)) plyPartsUptoCard
end Rows
end Go.Proofs.YtppmgbjdbnedoahDoor
