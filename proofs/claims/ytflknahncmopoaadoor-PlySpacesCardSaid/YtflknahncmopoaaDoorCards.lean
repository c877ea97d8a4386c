/-
  DERIVED. GIVEN WITH THE SEED: THE CARDS: each row of YtflknahncmopoaaDoorRows.lean that lists a variable, with what it lists TIED to the program's text (the seventh form; the later family's looks); each row that meets fmt, with fmt's text TOLD by the authors' own Lean function (tested against real Go, not proved from fmt's source: count such statements apart). THE CARD IS WHAT COUNTS. Prove the row's statement (the work); the ties are given (YtflknahncmopoaaDoorTie.lean); close each card by the builder's one call (the guide's Derived/Test/ToyasCard.lean, 'card_holds'). Laid BY PROGRAM, IN A SANDBOX (cutbox-door.mjs). By AI agents, Wed Nov 11 2026. No macro, syntax, notation, axiom, sorry.
-/
import Derived.Test.YtflknahncmopoaaDoorRows
import GoSem.ClaimSeven
namespace Go.Proofs.YtflknahncmopoaaDoor
namespace Rows

/-- THE TIED CARD OF 'remouldlaw08.PlySpaces'. -/
def plySpacesCard : Claim7 := { stood := { row := plySpacesRow, standIns := [], harness := (true, "eff5a3996c6569b0686fcc64c75962819dd2bd6140c378d32828fa2af897e8eb"), looks := false }, kinds := [], alts := [], laidByText := true, laidKinds := [.data, .data], laidTests := true, laidLooks := .later }
def PlySpacesCardSaid : Prop := Claim7.holds Tryd.pinned (.plain (OpenSpec.ofChange plySpacesSpec)) plySpacesCard

/-- THE SECOND FORM's CARD OF 'remouldlaw08.PlySpaces'. -/
def plySpacesUptoCard : Claim7 := { stood := { row := plySpacesUptoRow, standIns := [], harness := (true, "eff5a3996c6569b0686fcc64c75962819dd2bd6140c378d32828fa2af897e8eb"), looks := false }, kinds := [], alts := [], laidByText := true, laidKinds := [.data, .data], laidTests := true, laidLooks := .later }
def PlySpacesUptoCardSaid : Prop := Claim7.holds Tryd.pinned (.plain (OpenSpec.upto plySpacesSpec)) plySpacesUptoCard
end Rows
end Go.Proofs.YtflknahncmopoaaDoor
