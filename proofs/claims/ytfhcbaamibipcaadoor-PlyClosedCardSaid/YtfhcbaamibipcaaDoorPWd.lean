/- ply's reference: IsOpen. -/
import Derived.Test.YtfhcbaamibipcaaDoorPWc
set_option linter.unusedVariables false
set_option linter.unusedSimpArgs false
namespace Go.Proofs.YtfhcbaamibipcaaDoor
open Go.RowKit

def ofNats (cs : List Nat) : List Int := cs.map fun (c : Nat) => (c : Int)
theorem ofNats_len (cs : List Nat) : (ofNats cs).length = cs.length := by simp [ofNats]
theorem gi_nats (cs : List Nat) (p : Nat) : gi (ofNats cs) p = (cell cs p : Int) := by
  unfold gi ofNats cell
  rw [List.getD_eq_getElem?_getD, List.getD_eq_getElem?_getD, List.getElem?_map]
  cases cs[p]? <;> rfl
theorem cell_64 {cs : List Nat} (hc : Codes cs) (p : Nat) : cell cs p < 64 :=
  Nat.lt_of_lt_of_le (hc.2.2 p) (Nat.pow_le_pow_right (n := 2) (by omega) hc.2.1)

end Go.Proofs.YtfhcbaamibipcaaDoor
