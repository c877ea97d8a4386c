/- The reference's Start and Complete. -/
import Derived.Test.YtbkjdpdihnloeaaRNext
import Derived.Test.YtbkjdpdihnloeaaCompl
set_option linter.unusedVariables false
set_option linter.unusedSimpArgs false
namespace Go.Proofs.Ytbkjdpdihnloeaa
open Go.RowKit

/-- the first order that begins with the rows -/
def complR (xs : List Int) (n : Nat) : Option (List Int) := (allTo n n).find? (fun m => decide (xs <+: m))
theorem compl_same {xs : List Int} {n : Nat} (hl : xs.length ≤ n) (hr : rowsB xs n = true) : complL xs n = complR xs n := by
  unfold complL complR
  rw [clears_start hr hl, ← all_clears, ← List.head?_filter, List.head?_eq_getElem?]
theorem prefix_take {xs row : List Int} : decide (xs <+: row) = decide (xs = row.take xs.length) := by
  rw [decide_eq_decide, List.prefix_iff_eq_take]

end Go.Proofs.Ytbkjdpdihnloeaa
