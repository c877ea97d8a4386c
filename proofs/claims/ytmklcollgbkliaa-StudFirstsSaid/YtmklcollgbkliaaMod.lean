/- The helpers mod and prime of the statements. -/
import Derived.Test.YtmklcollgbkliaaBase
set_option linter.unusedVariables false
set_option linter.unusedSimpArgs false
namespace Go.Proofs.Ytmklcollgbkliaa
open Go.RowKit

def modN (x n : Int) : Int := (x % 18446744073709551616) % n
theorem modN_rng (x : Int) {n : Int} (hn : 1 ≤ n) : 0 ≤ modN x n ∧ modN x n < n := by
  unfold modN
  exact ⟨Int.emod_nonneg _ (by omega), Int.emod_lt_of_pos _ (by omega)⟩

end Go.Proofs.Ytmklcollgbkliaa
