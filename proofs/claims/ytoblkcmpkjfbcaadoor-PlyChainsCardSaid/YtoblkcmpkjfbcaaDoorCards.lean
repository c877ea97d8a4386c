/-
  DERIVED. GIVEN WITH THE SEED: THE CARDS: each row of YtoblkcmpkjfbcaaDoorRows.lean that lists a variable, with what it lists TIED to the program's text (the seventh form; the later family's looks); each row that meets fmt, with fmt's text TOLD by the authors' own Lean function (tested against real Go, not proved from fmt's source: count such statements apart). THE CARD IS WHAT COUNTS. Prove the row's statement (the work); the ties are given (YtoblkcmpkjfbcaaDoorTie.lean); close each card by the builder's one call (the guide's Derived/Test/ToyasCard.lean, 'card_holds'). Laid BY PROGRAM, IN A SANDBOX (cutbox-door.mjs). By AI agents, Wed Nov 11 2026. No macro, syntax, notation, axiom, sorry.
-/
import Derived.Test.YtoblkcmpkjfbcaaDoorRows
import GoSem.ClaimSeven
namespace Go.Proofs.YtoblkcmpkjfbcaaDoor
namespace Rows

/-- THE TIED CARD OF 'remouldlaw08.PlyChains'. -/
def plyChainsCard : Claim7 := { stood := { row := plyChainsRow, standIns := [], harness := (true, "bfd4f8950a417d154b0ff5325e7d16fd1c4a1685f577d09d729b6291cad790a7"), looks := false }, kinds := [], alts := [], laidByText := true, laidKinds := [.data, .data], laidTests := true, laidLooks := .later }
def PlyChainsCardSaid : Prop := Claim7.holds Tryd.pinned (.plain (OpenSpec.ofChange plyChainsSpec)) plyChainsCard

/-- THE SECOND FORM's CARD OF 'remouldlaw08.PlyChains'. -/
def plyChainsUptoCard : Claim7 := { stood := { row := plyChainsUptoRow, standIns := [], harness := (true, "bfd4f8950a417d154b0ff5325e7d16fd1c4a1685f577d09d729b6291cad790a7"), looks := false }, kinds := [], alts := [], laidByText := true, laidKinds := [.data, .data], laidTests := true, laidLooks := .later }
def PlyChainsUptoCardSaid : Prop := Claim7.holds Tryd.pinned (.plain (OpenSpec.upto plyChainsSpec)) plyChainsUptoCard
end Rows
end Go.Proofs.YtoblkcmpkjfbcaaDoor
