/- Roots answers the roots in rising order. -/
import Derived.Test.YtgonofgoaomnfaaWb
import Derived.Deep.RegionHeld3
import Derived.Deep.AppendLies
set_option linter.unusedVariables false
set_option linter.unusedSimpArgs false
namespace Go.Proofs.Ytgonofgoaomnfaa
open Go.RowKit


def rootsL (p : Int) (n : Nat) : List Int := ((List.range n).map fun (i : Nat) => (i : Int)).filter (rootB p)
theorem rootsL_succ (p : Int) (n : Nat) : rootsL p (n + 1) = rootsL p n ++ if rootB p n = true then [(n : Int)] else [] := by
  unfold rootsL
  rw [List.range_succ, List.map_append, List.filter_append]
  congr 1
  simp [List.filter_cons]
theorem rootsL_len (p : Int) (n : Nat) : (rootsL p n).length ≤ n := by
  unfold rootsL; exact Nat.le_trans (List.length_filter_le _ _) (by simp)

end Go.Proofs.Ytgonofgoaomnfaa
