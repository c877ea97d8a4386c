/-
  DERIVED. GIVEN WITH THE SEED: THE CARDS: each row of YtppmgbjdbnedoaaDoorRows.lean that lists a variable, with what it lists TIED to the program's text (the seventh form; the later family's looks); each row that meets fmt, with fmt's text TOLD by the authors' own Lean function (tested against real Go, not proved from fmt's source: count such statements apart). THE CARD IS WHAT COUNTS. Prove the row's statement (the work); the ties are given (YtppmgbjdbnedoaaDoorTie.lean); close each card by the builder's one call (the guide's Derived/Test/ToyasCard.lean, 'card_holds'). Laid BY PROGRAM, IN A SANDBOX (cutbox-door.mjs). By AI agents, Wed Nov 11 2026. No macro, syntax, notation, axiom, sorry.
-/
import Derived.Test.YtppmgbjdbnedoaaDoorRows
import GoSem.ClaimSeven
namespace Go.Proofs.YtppmgbjdbnedoaaDoor
namespace Rows

/-- THE TIED CARD OF 'remouldlaw08.PlyDual'. -/
def plyDualCard : Claim7 := { stood := { row := plyDualRow, standIns := [], harness := (true, "c959b55eadc91a15f859c1a63e2700e23bdf1b6b3278dc9d23033d2949fc59d9"), looks := false }, kinds := [], alts := [], laidByText := true, laidKinds := [.data, .data], laidTests := true, laidLooks := .later }
def PlyDualCardSaid : Prop := Claim7.holds Tryd.pinned (.plain (OpenSpec.ofChange plyDualSpec)) plyDualCard

/-- THE SECOND FORM's CARD OF 'remouldlaw08.PlyDual'. -/
def plyDualUptoCard : Claim7 := { stood := { row := plyDualUptoRow, standIns := [], harness := (true, "c959b55eadc91a15f859c1a63e2700e23bdf1b6b3278dc9d23033d2949fc59d9"), looks := false }, kinds := [], alts := [], laidByText := true, laidKinds := [.data, .data], laidTests := true, laidLooks := .later }
def PlyDualUptoCardSaid : Prop := Claim7.holds Tryd.pinned (.plain (OpenSpec.upto plyDualSpec)) plyDualUptoCard
end Rows
end Go.Proofs.YtppmgbjdbnedoaaDoor
