/-
  DERIVED. GIVEN WITH THE SEED: THE CARDS: each row of YtmagkcioplcidadDoorRows.lean that lists a variable, with what it lists TIED to the program's text (the seventh form; the later family's looks); each row that meets fmt, with fmt's text TOLD by the authors' own Lean function (tested against real Go, not proved from fmt's source: count such statements apart). THE CARD IS WHAT COUNTS. Prove the row's statement (the work); the ties are given (YtmagkcioplcidadDoorTie.lean); close each card by the builder's one call (the guide's Derived/Test/ToyasCard.lean, 'card_holds'). Laid BY PROGRAM, IN A SANDBOX (cutbox-door.mjs). By AI agents, Wed Nov 11 2026. No macro, syntax, notation, axiom, sorry.
-/
import Derived.Test.YtmagkcioplcidadDoorRows
import GoSem.ClaimSeven
namespace Go.Proofs.YtmagkcioplcidadDoor
namespace Rows

/-- THE TIED CARD OF 'remouldlaw08.PlyRenamed'. -/
def plyRenamedCard : Claim7 := { stood := { row := plyRenamedRow, standIns := [], harness := (true, "846e8b5555f088d9b29c4db897ec57b57120e1514edd9de3cfd0654c5e0658c9"), looks := false }, kinds := [], alts := [], laidByText := true, laidKinds := [.data, .data], laidTests := true, laidLooks := .later }
def PlyRenamedCardSaid : Prop := Claim7.holds Tryd.pinned (.plain (OpenSpec.ofChange plyRenamedSpec)) plyRenamedCard

/-- THE SECOND FORM's CARD OF 'remouldlaw08.PlyRenamed'. -/
def plyRenamedUptoCard : Claim7 := { stood := { row := plyRenamedUptoRow, standIns := [], harness := (true, "846e8b5555f088d9b29c4db897ec57b57120e1514edd9de3cfd0654c5e0658c9"), looks := false }, kinds := [], alts := [], laidByText := true, laidKinds := [.data, .data], laidTests := true, laidLooks := .later }
def PlyRenamedUptoCardSaid : Prop := Claim7.holds Tryd.pinned (.plain (OpenSpec.upto plyRenamedSpec)) plyRenamedUptoCard
end Rows
end Go.Proofs.YtmagkcioplcidadDoor
