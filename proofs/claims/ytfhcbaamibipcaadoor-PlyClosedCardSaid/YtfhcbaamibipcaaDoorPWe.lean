/- ply's reference: Opens. -/
import Derived.Test.YtfhcbaamibipcaaDoorPWd
set_option linter.unusedVariables false
set_option linter.unusedSimpArgs false
namespace Go.Proofs.YtfhcbaamibipcaaDoor
open Go.RowKit

def openTo (cs : List Nat) (k : Nat) : List Nat := (List.range k).filter fun s => openB cs s
theorem openTo_succ (cs : List Nat) (k : Nat) : ofNats (openTo cs (k + 1)) = ofNats (openTo cs k) ++ if openB cs k = true then [(k : Int)] else [] := by
  unfold openTo
  rw [List.range_succ, List.filter_append]
  by_cases h : openB cs k = true
  · simp [ofNats, h]
  · simp [ofNats, h]
theorem openTo_len (cs : List Nat) (k : Nat) : (ofNats (openTo cs k)).length ≤ k := by
  rw [ofNats_len]; unfold openTo
  have := List.length_filter_le (fun s => openB cs s) (List.range k)
  simpa using this

end Go.Proofs.YtfhcbaamibipcaaDoor
