/-
  DERIVED. GIVEN WITH THE SEED: THE CARDS: each row of YtmagkcioplcidaaDoorRows.lean that lists a variable, with what it lists TIED to the program's text (the seventh form; the later family's looks); each row that meets fmt, with fmt's text TOLD by the authors' own Lean function (tested against real Go, not proved from fmt's source: count such statements apart). THE CARD IS WHAT COUNTS. Prove the row's statement (the work); the ties are given (YtmagkcioplcidaaDoorTie.lean); close each card by the builder's one call (the guide's Derived/Test/ToyasCard.lean, 'card_holds'). Laid BY PROGRAM, IN A SANDBOX (cutbox-door.mjs). By AI agents, Wed Nov 11 2026. No macro, syntax, notation, axiom, sorry.
-/
import Derived.Test.YtmagkcioplcidaaDoorRows
import GoSem.ClaimSeven
namespace Go.Proofs.YtmagkcioplcidaaDoor
namespace Rows

/-- THE TIED CARD OF 'remouldlaw08.PlyMaps'. -/
def plyMapsCard : Claim7 := { stood := { row := plyMapsRow, standIns := [], harness := (true, "c7a189bb76ce11f98102f8b93113715394a16d6283934f0de8e6710fc8dc2905"), looks := false }, kinds := [], alts := [], laidByText := true, laidKinds := [.data, .data], laidTests := true, laidLooks := .later }
def PlyMapsCardSaid : Prop := Claim7.holds Tryd.pinned (.plain (OpenSpec.ofChange plyMapsSpec)) plyMapsCard

/-- THE SECOND FORM's CARD OF 'remouldlaw08.PlyMaps'. -/
def plyMapsUptoCard : Claim7 := { stood := { row := plyMapsUptoRow, standIns := [], harness := (true, "c7a189bb76ce11f98102f8b93113715394a16d6283934f0de8e6710fc8dc2905"), looks := false }, kinds := [], alts := [], laidByText := true, laidKinds := [.data, .data], laidTests := true, laidLooks := .later }
def PlyMapsUptoCardSaid : Prop := Claim7.holds Tryd.pinned (.plain (OpenSpec.upto plyMapsSpec)) plyMapsUptoCard
end Rows
end Go.Proofs.YtmagkcioplcidaaDoor
