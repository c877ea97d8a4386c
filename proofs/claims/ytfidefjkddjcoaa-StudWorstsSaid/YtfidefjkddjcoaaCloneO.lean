/- slices.Clone of an order, and append to one. -/
import Derived.Test.YtfidefjkddjcoaaBase
set_option linter.unusedVariables false
set_option linter.unusedSimpArgs false
namespace Go.Proofs.Ytfidefjkddjcoaa
open Go.RowKit

end Go.Proofs.Ytfidefjkddjcoaa
