/- ply's laws: gives. -/
import Derived.Test.YtfhcbaamibipcaaDoorPWb
set_option linter.unusedVariables false
set_option linter.unusedSimpArgs false
namespace Go.Proofs.YtfhcbaamibipcaaDoor
open Go.RowKit

end Go.Proofs.YtfhcbaamibipcaaDoor
