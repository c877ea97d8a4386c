/- Meeting, and the reference's Meeting. -/
import Derived.Test.YtlgonmnbedddaaaMeet
set_option linter.unusedVariables false
set_option linter.unusedSimpArgs false
namespace Go.Proofs.Ytlgonmnbedddaaa
open Go.RowKit

def meetS (xs : List Int) (u v : Int) : Int × Int := if ordB xs then (meetN xs u v xs.length, 0) else (0, 2)
theorem meetN_out {xs : List Int} {u v : Int} (ho : ordB xs = true) (h : u ≤ -(xs.length : Int) ∨ (xs.length : Int) ≤ u ∨ v ≤ -(xs.length : Int) ∨ (xs.length : Int) ≤ v) : meetN xs u v xs.length = 0 := by
  refine meetN_zero fun i hi => ?_
  by_cases hr : 0 ≤ (i : Int) + u ∧ (i : Int) + u < xs.length
  · obtain ⟨j, hj⟩ : ∃ j : Nat, (i : Int) + u = j := ⟨((i : Int) + u).toNat, by omega⟩
    rw [hit_at hj (by omega)]
    have h1 := ordB_small ho i
    have h2 := ordB_small ho j
    rw [decide_eq_false_iff_not]
    omega
  · exact hit_no1 hr

end Go.Proofs.Ytlgonmnbedddaaa
