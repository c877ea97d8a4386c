/- ply's reference: Other. -/
import Derived.Test.YtfhcbaamibipcaaDoorPWa
set_option linter.unusedVariables false
set_option linter.unusedSimpArgs false
namespace Go.Proofs.YtfhcbaamibipcaaDoor
open Go.RowKit

def setB (n : Nat) (x : Int) : Bool := decide (0 ≤ x ∧ x < 2 ^ n)
theorem refSet_any (n : Nat) (x : Int) (w : World) (hn : n ≤ 6) :
    Calls Tryd.prog 7 #[.int .i64 n, .int .i64 x] w fun e w' => e = .returned (.bool (setB n x)) ∧ w = w' := by
  have e1 : n = 0 ∨ n = 1 ∨ n = 2 ∨ n = 3 ∨ n = 4 ∨ n = 5 ∨ n = 6 := by omega
  rcases e1 with rfl | rfl | rfl | rfl | rfl | rfl | rfl
  all_goals
    unfold setB
    by_cases h0 : 0 ≤ x
    · have g0 : decide (0 ≤ x) = true := decide_eq_true h0
      go_enter Tryd.func7, Tryd.ntmps7
      go_wp2
      go_ret
      refine ⟨ret_bool ?_, rfl⟩
      rw [Bool.eq_iff_iff, decide_eq_true_eq, decide_eq_true_eq]
      omega
    · have g0 : decide (0 ≤ x) = false := decide_eq_false h0
      go_enter Tryd.func7, Tryd.ntmps7
      go_wp2
      go_ret
      refine ⟨ret_bool ?_, rfl⟩
      first
        | rfl
        | (symm; rw [decide_eq_false_iff_not]; omega)
end Go.Proofs.YtfhcbaamibipcaaDoor
