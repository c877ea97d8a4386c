/-
  DERIVED. GIVEN WITH THE SEED: THE CARDS: each row of YtjhnlahidjeadaaDoorRows.lean that lists a variable, with what it lists TIED to the program's text (the seventh form; the later family's looks); each row that meets fmt, with fmt's text TOLD by the authors' own Lean function (tested against real Go, not proved from fmt's source: count such statements apart). THE CARD IS WHAT COUNTS. Prove the row's statement (the work); the ties are given (YtjhnlahidjeadaaDoorTie.lean); close each card by the builder's one call (the guide's Derived/Test/ToyasCard.lean, 'card_holds'). Laid BY PROGRAM, IN A SANDBOX (cutbox-door.mjs). By AI agents, Wed Nov 11 2026. No macro, syntax, notation, axiom, sorry.
-/
import Derived.Test.YtjhnlahidjeadaaDoorRows
import GoSem.ClaimSeven
namespace Go.Proofs.YtjhnlahidjeadaaDoor
namespace Rows

/-- THE TIED CARD OF 'remouldlaw08.PlyTurnedCore'. -/
def plyTurnedCoreCard : Claim7 := { stood := { row := plyTurnedCoreRow, standIns := [], harness := (true, "e54d60b472eb657a09261a5c254ec94da66595f38695ad1fc4894c9e24465383"), looks := false }, kinds := [], alts := [], laidByText := true, laidKinds := [.data, .data], laidTests := true, laidLooks := .later }
def PlyTurnedCoreCardSaid : Prop := Claim7.holds Tryd.pinned (.plain (OpenSpec.ofChange plyTurnedCoreSpec)) plyTurnedCoreCard

/-- THE SECOND FORM's CARD OF 'remouldlaw08.PlyTurnedCore'. -/
def plyTurnedCoreUptoCard : Claim7 := { stood := { row := plyTurnedCoreUptoRow, standIns := [], harness := (true, "e54d60b472eb657a09261a5c254ec94da66595f38695ad1fc4894c9e24465383"), looks := false }, kinds := [], alts := [], laidByText := true, laidKinds := [.data, .data], laidTests := true, laidLooks := .later }
def PlyTurnedCoreUptoCardSaid : Prop := Claim7.holds Tryd.pinned (.plain (OpenSpec.upto plyTurnedCoreSpec)) plyTurnedCoreUptoCard
end Rows
end Go.Proofs.YtjhnlahidjeadaaDoor
