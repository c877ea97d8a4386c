/- ply's laws: gives. -/
import Derived.Test.YtoblkcmpkjfbcaaDoorPWb
set_option linter.unusedVariables false
set_option linter.unusedSimpArgs false
namespace Go.Proofs.YtoblkcmpkjfbcaaDoor
open Go.RowKit

end Go.Proofs.YtoblkcmpkjfbcaaDoor
