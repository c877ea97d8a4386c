/-
  DERIVED. GIVEN WITH THE SEED: THE CARDS: each row of YtppmgbjdbnedoadDoorRows.lean that lists a variable, with what it lists TIED to the program's text (the seventh form; the later family's looks); each row that meets fmt, with fmt's text TOLD by the authors' own Lean function (tested against real Go, not proved from fmt's source: count such statements apart). THE CARD IS WHAT COUNTS. Prove the row's statement (the work); the ties are given (YtppmgbjdbnedoadDoorTie.lean); close each card by the builder's one call (the guide's Derived/Test/ToyasCard.lean, 'card_holds'). Laid BY PROGRAM, IN A SANDBOX (cutbox-door.mjs). By AI agents, Wed Nov 11 2026. No macro, syntax, notation, axiom, sorry.
-/
import Derived.Test.YtppmgbjdbnedoadDoorRows
import GoSem.ClaimSeven
namespace Go.Proofs.YtppmgbjdbnedoadDoor
namespace Rows

/-- THE TIED CARD OF 'remouldlaw08.PlyCores'. -/
def plyCoresCard : Claim7 := { stood := { row := plyCoresRow, standIns := [], harness := (true, "f75c9c376cdae9bec7683c6c815cc7e31f24c1a240dd265de96c4c2175455b8c"), looks := false }, kinds := [], alts := [], laidByText := true, laidKinds := [.data, .data], laidTests := true, laidLooks := .later }
def PlyCoresCardSaid : Prop := Claim7.holds Tryd.pinned (.plain (OpenSpec.ofChange plyCoresSpec)) plyCoresCard

/-- THE SECOND FORM's CARD OF 'remouldlaw08.PlyCores'. -/
def plyCoresUptoCard : Claim7 := { stood := { row := plyCoresUptoRow, standIns := [], harness := (true, "f75c9c376cdae9bec7683c6c815cc7e31f24c1a240dd265de96c4c2175455b8c"), looks := false }, kinds := [], alts := [], laidByText := true, laidKinds := [.data, .data], laidTests := true, laidLooks := .later }
def PlyCoresUptoCardSaid : Prop := Claim7.holds Tryd.pinned (.plain (OpenSpec.upto plyCoresSpec)) plyCoresUptoCard
end Rows
end Go.Proofs.YtppmgbjdbnedoadDoor
