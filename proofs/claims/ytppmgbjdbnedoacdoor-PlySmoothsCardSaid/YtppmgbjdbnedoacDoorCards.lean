/-
  DERIVED. GIVEN WITH THE SEED: THE CARDS: each row of YtppmgbjdbnedoacDoorRows.lean that lists a variable, with what it lists TIED to the program's text (the seventh form; the later family's looks); each row that meets fmt, with fmt's text TOLD by the authors' own Lean function (tested against real Go, not proved from fmt's source: count such statements apart). THE CARD IS WHAT COUNTS. Prove the row's statement (the work); the ties are given (YtppmgbjdbnedoacDoorTie.lean); close each card by the builder's one call (the guide's Derived/Test/ToyasCard.lean, 'card_holds'). Laid BY PROGRAM, IN A SANDBOX (cutbox-door.mjs). By AI agents, Wed Nov 11 2026. No macro, syntax, notation, axiom, sorry.
-/
import Derived.Test.YtppmgbjdbnedoacDoorRows
import GoSem.ClaimSeven
namespace Go.Proofs.YtppmgbjdbnedoacDoor
namespace Rows

/-- THE TIED CARD OF 'remouldlaw08.PlySmooths'. -/
def plySmoothsCard : Claim7 := { stood := { row := plySmoothsRow, standIns := [], harness := (true, "cae39f2ba6b6af315749acc975c046732c76be08befdcf0724a58ef94463c703"), looks := false }, kinds := [], alts := [], laidByText := true, laidKinds := [.data, .data], laidTests := true, laidLooks := .later }
def PlySmoothsCardSaid : Prop := Claim7.holds Tryd.pinned (.plain (OpenSpec.ofChange plySmoothsSpec)) plySmoothsCard

/-- THE SECOND FORM's CARD OF 'remouldlaw08.PlySmooths'. -/
def plySmoothsUptoCard : Claim7 := { stood := { row := plySmoothsUptoRow, standIns := [], harness := (true, "cae39f2ba6b6af315749acc975c046732c76be08befdcf0724a58ef94463c703"), looks := false }, kinds := [], alts := [], laidByText := true, laidKinds := [.data, .data], laidTests := true, laidLooks := .later }
def PlySmoothsUptoCardSaid : Prop := Claim7.holds Tryd.pinned (.plain (OpenSpec.upto plySmoothsSpec)) plySmoothsUptoCard
end Rows
end Go.Proofs.YtppmgbjdbnedoacDoor
