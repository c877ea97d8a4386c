/-
  DERIVED. GIVEN WITH THE SEED: THE CARDS: each row of YtiihnfcgffaabaaDoorRows.lean that lists a variable, with what it lists TIED to the program's text (the seventh form; the later family's looks); each row that meets fmt, with fmt's text TOLD by the authors' own Lean function (tested against real Go, not proved from fmt's source: count such statements apart). THE CARD IS WHAT COUNTS. Prove the row's statement (the work); the ties are given (YtiihnfcgffaabaaDoorTie.lean); close each card by the builder's one call (the guide's Derived/Test/ToyasCard.lean, 'card_holds'). Laid BY PROGRAM, IN A SANDBOX (cutbox-door.mjs). By AI agents, Wed Nov 11 2026. No macro, syntax, notation, axiom, sorry.
-/
import Derived.Test.YtiihnfcgffaabaaDoorRows
import GoSem.ClaimSeven
namespace Go.Proofs.YtiihnfcgffaabaaDoor
namespace Rows

/-- THE TIED CARD OF 'remouldlaw08.PlyClosures'. -/
def plyClosuresCard : Claim7 := { stood := { row := plyClosuresRow, standIns := [], harness := (true, "26f0487e5e4d79031f25f08897883313efb534868004af78671a38d5026255fc"), looks := false }, kinds := [], alts := [], laidByText := true, laidKinds := [.data, .data], laidTests := true, laidLooks := .later }
def PlyClosuresCardSaid : Prop := Claim7.holds Tryd.pinned (.plain (OpenSpec.ofChange plyClosuresSpec)) plyClosuresCard

/-- THE SECOND FORM's CARD OF 'remouldlaw08.PlyClosures'. -/
def plyClosuresUptoCard : Claim7 := { stood := { row := plyClosuresUptoRow, standIns := [], harness := (true, "26f0487e5e4d79031f25f08897883313efb534868004af78671a38d5026255fc"), looks := false }, kinds := [], alts := [], laidByText := true, laidKinds := [.data, .data], laidTests := true, laidLooks := .later }
def PlyClosuresUptoCardSaid : Prop := Claim7.holds Tryd.pinned (.plain (OpenSpec.upto plyClosuresSpec)) plyClosuresUptoCard
end Rows
end Go.Proofs.YtiihnfcgffaabaaDoor
