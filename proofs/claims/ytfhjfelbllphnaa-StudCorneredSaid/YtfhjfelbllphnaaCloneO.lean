/- slices.Clone of an order, and append to one. -/
import Derived.Test.YtfhjfelbllphnaaBase
set_option linter.unusedVariables false
set_option linter.unusedSimpArgs false
namespace Go.Proofs.Ytfhjfelbllphnaa
open Go.RowKit

end Go.Proofs.Ytfhjfelbllphnaa
