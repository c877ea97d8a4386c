/- StudBetween. -/
import Derived.Test.YtekmmcbfbapjmaaFirstLaw
import Derived.Test.YtekmmcbfbapjmaaTame
import Derived.Test.YtekmmcbfbapjmaaAwake
set_option linter.unusedVariables false
set_option linter.unusedSimpArgs false
namespace Go.Proofs.Ytekmmcbfbapjmaa
open Go.RowKit

theorem nextS_ok {o : List Int} (ho : ordB o = true) (h7 : o.length ≤ 7) : nextS o = ((nextL o).getD [], optE (nextL o) 6) := by unfold nextS; rw [ho, decide_eq_true h7]; rfl
theorem complS_some {s y : List Int} {n : Nat} (h1 : 1 ≤ n) (h7 : n ≤ 7) (hl : s.length ≤ n) (hr : rowsB s n = true) (h : complR s n = some y) : complS s n = (y, 0) := by
  rw [complS_ok (withinB_iff.2 ⟨by omega, by omega⟩) hl hr, compl_same hl hr, h]; rfl
theorem complS_none {s : List Int} {n : Nat} (h1 : 1 ≤ n) (h7 : n ≤ 7) (hl : s.length ≤ n) (hr : rowsB s n = true) (h : complR s n = none) : complS s n = ([], 6) := by
  rw [complS_ok (withinB_iff.2 ⟨by omega, by omega⟩) hl hr, compl_same hl hr, h]; rfl
theorem small_of_rows {xs : List Int} {n : Nat} (hn : n ≤ 1000) (h : rowsB xs n = true) : ∀ j, -1000000 ≤ gi xs j ∧ gi xs j ≤ 1000000 := fun j => by
  have := rows_small hn h j; omega

end Go.Proofs.Ytekmmcbfbapjmaa
