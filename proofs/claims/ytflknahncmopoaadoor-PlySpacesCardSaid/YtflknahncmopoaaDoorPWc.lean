/- ply's laws: gives. -/
import Derived.Test.YtflknahncmopoaaDoorPWb
set_option linter.unusedVariables false
set_option linter.unusedSimpArgs false
namespace Go.Proofs.YtflknahncmopoaaDoor
open Go.RowKit

end Go.Proofs.YtflknahncmopoaaDoor
