/-
  DERIVED. GIVEN WITH THE SEED: THE CARDS: each row of YtmagkcioplcidabDoorRows.lean that lists a variable, with what it lists TIED to the program's text (the seventh form; the later family's looks); each row that meets fmt, with fmt's text TOLD by the authors' own Lean function (tested against real Go, not proved from fmt's source: count such statements apart). THE CARD IS WHAT COUNTS. Prove the row's statement (the work); the ties are given (YtmagkcioplcidabDoorTie.lean); close each card by the builder's one call (the guide's Derived/Test/ToyasCard.lean, 'card_holds'). Laid BY PROGRAM, IN A SANDBOX (cutbox-door.mjs). By AI agents, Wed Nov 11 2026. No macro, syntax, notation, axiom, sorry.
-/
import Derived.Test.YtmagkcioplcidabDoorRows
import GoSem.ClaimSeven
namespace Go.Proofs.YtmagkcioplcidabDoor
namespace Rows

/-- THE TIED CARD OF 'remouldlaw08.PlyCounts'. -/
def plyCountsCard : Claim7 := { stood := { row := plyCountsRow, standIns := [], harness := (true, "77ed3265796ef92204e8258db9067cbf3485b664a19d8c5b5524773fe7f30e4d"), looks := false }, kinds := [], alts := [], laidByText := true, laidKinds := [.data, .data], laidTests := true, laidLooks := .later }
def PlyCountsCardSaid : Prop := Claim7.holds Tryd.pinned (.plain (OpenSpec.ofChange plyCountsSpec)) plyCountsCard

/-- THE SECOND FORM's CARD OF 'remouldlaw08.PlyCounts'. -/
def plyCountsUptoCard : Claim7 := { stood := { row := plyCountsUptoRow, standIns := [], harness := (true, "77ed3265796ef92204e8258db9067cbf3485b664a19d8c5b5524773fe7f30e4d"), looks := false }, kinds := [], alts := [], laidByText := true, laidKinds := [.data, .data], laidTests := true, laidLooks := .later }
def PlyCountsUptoCardSaid : Prop := Claim7.holds Tryd.pinned (.plain (OpenSpec.upto plyCountsSpec)) plyCountsUptoCard
end Rows
end Go.Proofs.YtmagkcioplcidabDoor
