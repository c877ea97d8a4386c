/-
  DERIVED. GIVEN WITH THE SEED: THE CARDS: each row of YtmagkcioplcidaeDoorRows.lean that lists a variable, with what it lists TIED to the program's text (the seventh form; the later family's looks); each row that meets fmt, with fmt's text TOLD by the authors' own Lean function (tested against real Go, not proved from fmt's source: count such statements apart). THE CARD IS WHAT COUNTS. Prove the row's statement (the work); the ties are given (YtmagkcioplcidaeDoorTie.lean); close each card by the builder's one call (the guide's Derived/Test/ToyasCard.lean, 'card_holds'). Laid BY PROGRAM, IN A SANDBOX (cutbox-door.mjs). By AI agents, Wed Nov 11 2026. No macro, syntax, notation, axiom, sorry.
-/
import Derived.Test.YtmagkcioplcidaeDoorRows
import GoSem.ClaimSeven
namespace Go.Proofs.YtmagkcioplcidaeDoor
namespace Rows

/-- THE TIED CARD OF 'remouldlaw08.PlyOwn'. -/
def plyOwnCard : Claim7 := { stood := { row := plyOwnRow, standIns := [], harness := (true, "34efc4e88f0dd45d2462d2d2b6ed88ce2f14126ab55a589f2bef4a716da622ae"), looks := false }, kinds := [], alts := [], laidByText := true, laidKinds := [.data, .data], laidTests := true, laidLooks := .later }
def PlyOwnCardSaid : Prop := Claim7.holds Tryd.pinned (.plain (OpenSpec.ofChange plyOwnSpec)) plyOwnCard

/-- THE SECOND FORM's CARD OF 'remouldlaw08.PlyOwn'. -/
def plyOwnUptoCard : Claim7 := { stood := { row := plyOwnUptoRow, standIns := [], harness := (true, "34efc4e88f0dd45d2462d2d2b6ed88ce2f14126ab55a589f2bef4a716da622ae"), looks := false }, kinds := [], alts := [], laidByText := true, laidKinds := [.data, .data], laidTests := true, laidLooks := .later }
def PlyOwnUptoCardSaid : Prop := Claim7.holds Tryd.pinned (.plain (OpenSpec.upto plyOwnSpec)) plyOwnUptoCard
end Rows
end Go.Proofs.YtmagkcioplcidaeDoor
