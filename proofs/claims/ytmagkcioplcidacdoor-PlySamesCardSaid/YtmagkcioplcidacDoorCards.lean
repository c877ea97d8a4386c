/-
  DERIVED. GIVEN WITH THE SEED: THE CARDS: each row of YtmagkcioplcidacDoorRows.lean that lists a variable, with what it lists TIED to the program's text (the seventh form; the later family's looks); each row that meets fmt, with fmt's text TOLD by the authors' own Lean function (tested against real Go, not proved from fmt's source: count such statements apart). THE CARD IS WHAT COUNTS. Prove the row's statement (the work); the ties are given (YtmagkcioplcidacDoorTie.lean); close each card by the builder's one call (the guide's Derived/Test/ToyasCard.lean, 'card_holds'). Laid BY PROGRAM, IN A SANDBOX (cutbox-door.mjs). By AI agents, Wed Nov 11 2026. No macro, syntax, notation, axiom, sorry.
-/
import Derived.Test.YtmagkcioplcidacDoorRows
import GoSem.ClaimSeven
namespace Go.Proofs.YtmagkcioplcidacDoor
namespace Rows

/-- THE TIED CARD OF 'remouldlaw08.PlySames'. -/
def plySamesCard : Claim7 := { stood := { row := plySamesRow, standIns := [], harness := (true, "080dece58a1fdaaed123d6ef670f6be9f33fe828a27c642453e778bad374f7b1"), looks := false }, kinds := [], alts := [], laidByText := true, laidKinds := [.data, .data], laidTests := true, laidLooks := .later }
def PlySamesCardSaid : Prop := Claim7.holds Tryd.pinned (.plain (OpenSpec.ofChange plySamesSpec)) plySamesCard

/-- THE SECOND FORM's CARD OF 'remouldlaw08.PlySames'. -/
def plySamesUptoCard : Claim7 := { stood := { row := plySamesUptoRow, standIns := [], harness := (true, "080dece58a1fdaaed123d6ef670f6be9f33fe828a27c642453e778bad374f7b1"), looks := false }, kinds := [], alts := [], laidByText := true, laidKinds := [.data, .data], laidTests := true, laidLooks := .later }
def PlySamesUptoCardSaid : Prop := Claim7.holds Tryd.pinned (.plain (OpenSpec.upto plySamesSpec)) plySamesUptoCard
end Rows
end Go.Proofs.YtmagkcioplcidacDoor
