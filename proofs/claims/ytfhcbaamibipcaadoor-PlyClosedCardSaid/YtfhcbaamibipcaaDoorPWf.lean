/- ply's reference: Inside. -/
import Derived.Test.YtfhcbaamibipcaaDoorPWe
set_option linter.unusedVariables false
set_option linter.unusedSimpArgs false
namespace Go.Proofs.YtfhcbaamibipcaaDoor
open Go.RowKit

theorem join_take (s : Nat) (L : List Nat) (k : Nat) (hk : k < L.length) : joinN s (L.take (k + 1)) = if subB (cell L k) s = true then joinN s (L.take k) ||| cell L k else joinN s (L.take k) := by
  unfold joinN cell
  rw [List.take_succ_eq_append_getElem hk, List.foldl_append, List.foldl_cons, List.foldl_nil, List.getD_eq_getElem?_getD, List.getElem?_eq_getElem hk]
  rfl
theorem opens_lt {cs : List Nat} (hc : Codes cs) (k : Nat) : cell (opensN cs) k < 64 := by
  unfold cell
  rw [List.getD_eq_getElem?_getD]
  by_cases hk : k < (opensN cs).length
  · rw [List.getElem?_eq_getElem hk]
    have hm : (opensN cs)[k] ∈ opensN cs := List.getElem_mem hk
    unfold opensN at hm
    rw [List.mem_filter, List.mem_range] at hm
    exact Nat.lt_of_lt_of_le hm.1 (Nat.pow_le_pow_right (n := 2) (by omega) hc.2.1)
  · rw [List.getElem?_eq_none (by omega)]; decide

end Go.Proofs.YtfhcbaamibipcaaDoor
