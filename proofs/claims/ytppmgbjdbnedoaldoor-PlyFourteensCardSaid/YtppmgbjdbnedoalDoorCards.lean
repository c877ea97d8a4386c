/-
  DERIVED. GIVEN WITH THE SEED: THE CARDS: each row of YtppmgbjdbnedoalDoorRows.lean that lists a variable, with what it lists TIED to the program's text (the seventh form; the later family's looks); each row that meets fmt, with fmt's text TOLD by the authors' own Lean function (tested against real Go, not proved from fmt's source: count such statements apart). THE CARD IS WHAT COUNTS. Prove the row's statement (the work); the ties are given (YtppmgbjdbnedoalDoorTie.lean); close each card by the builder's one call (the guide's Derived/Test/ToyasCard.lean, 'card_holds'). Laid BY PROGRAM, IN A SANDBOX (cutbox-door.mjs). By AI agents, Wed Nov 11 2026. No macro, syntax, notation, axiom, sorry.
-/
import Derived.Test.YtppmgbjdbnedoalDoorRows
import GoSem.ClaimSeven
namespace Go.Proofs.YtppmgbjdbnedoalDoor
namespace Rows

/-- THE TIED CARD OF 'remouldlaw08.PlyFourteens'. -/
def plyFourteensCard : Claim7 := { stood := { row := plyFourteensRow, standIns := [], harness := (true, "a8aa08d3faa233a52db1512559c8032caa14ab34b420bfcc61029dd4d2cc24fb"), looks := false }, kinds := [], alts := [], laidByText := true, laidKinds := [.data, .data], laidTests := true, laidLooks := .later }
def PlyFourteensCardSaid : Prop := Claim7.holds Tryd.pinned (.plain (OpenSpec.ofChange plyFourteensSpec)) plyFourteensCard

/-- THE SECOND FORM's CARD OF 'remouldlaw08.PlyFourteens'. -/
def plyFourteensUptoCard : Claim7 := { stood := { row := plyFourteensUptoRow, standIns := [], harness := (true, "a8aa08d3faa233a52db1512559c8032caa14ab34b420bfcc61029dd4d2cc24fb"), looks := false }, kinds := [], alts := [], laidByText := true, laidKinds := [.data, .data], laidTests := true, laidLooks := .later }
def PlyFourteensUptoCardSaid : Prop := Claim7.holds Tryd.pinned (.plain (OpenSpec.upto plyFourteensSpec)) plyFourteensUptoCard
end Rows
end Go.Proofs.YtppmgbjdbnedoalDoor
