/-
  DERIVED. GIVEN WITH THE SEED: THE CARDS: each row of YtppmgbjdbnedoakDoorRows.lean that lists a variable, with what it lists TIED to the program's text (the seventh form; the later family's looks); each row that meets fmt, with fmt's text TOLD by the authors' own Lean function (tested against real Go, not proved from fmt's source: count such statements apart). THE CARD IS WHAT COUNTS. Prove the row's statement (the work); the ties are given (YtppmgbjdbnedoakDoorTie.lean); close each card by the builder's one call (the guide's Derived/Test/ToyasCard.lean, 'card_holds'). Laid BY PROGRAM, IN A SANDBOX (cutbox-door.mjs). By AI agents, Wed Nov 11 2026. No macro, syntax, notation, axiom, sorry.
-/
import Derived.Test.YtppmgbjdbnedoakDoorRows
import GoSem.ClaimSeven
namespace Go.Proofs.YtppmgbjdbnedoakDoor
namespace Rows

/-- THE TIED CARD OF 'remouldlaw08.PlyFew'. -/
def plyFewCard : Claim7 := { stood := { row := plyFewRow, standIns := [], harness := (true, "7b38ed3099adf89b68494994b33e2b8f813ce0fcac43342ad253f536831bda79"), looks := false }, kinds := [], alts := [], laidByText := true, laidKinds := [.data, .data], laidTests := true, laidLooks := .later }
def PlyFewCardSaid : Prop := Claim7.holds Tryd.pinned (.plain (OpenSpec.ofChange plyFewSpec)) plyFewCard

/-- THE SECOND FORM's CARD OF 'remouldlaw08.PlyFew'. -/
def plyFewUptoCard : Claim7 := { stood := { row := plyFewUptoRow, standIns := [], harness := (true, "7b38ed3099adf89b68494994b33e2b8f813ce0fcac43342ad253f536831bda79"), looks := false }, kinds := [], alts := [], laidByText := true, laidKinds := [.data, .data], laidTests := true, laidLooks := .later }
def PlyFewUptoCardSaid : Prop := Claim7.holds Tryd.pinned (.plain (OpenSpec.upto plyFewSpec)) plyFewUptoCard
end Rows
end Go.Proofs.YtppmgbjdbnedoakDoor
