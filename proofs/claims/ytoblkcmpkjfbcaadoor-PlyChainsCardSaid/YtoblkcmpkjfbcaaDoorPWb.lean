/- ply's reference: Other. -/
import Derived.Test.YtoblkcmpkjfbcaaDoorPWa
set_option linter.unusedVariables false
set_option linter.unusedSimpArgs false
namespace Go.Proofs.YtoblkcmpkjfbcaaDoor
open Go.RowKit

def setB (n : Nat) (x : Int) : Bool := decide (0 ≤ x ∧ x < 2 ^ n)
end Go.Proofs.YtoblkcmpkjfbcaaDoor
