/- StudFirsts: the least order, and the walk. -/
import Derived.Test.YtlgonmnbedddaaaRFirst
import Derived.Test.YtlgonmnbedddaaaFstLaw
import Derived.Test.YtlgonmnbedddaaaROrd
import Derived.Test.YtlgonmnbedddaaaList
import Derived.Test.YtlgonmnbedddaaaLens
import Derived.Test.YtlgonmnbedddaaaAwake
set_option linter.unusedVariables false
set_option linter.unusedSimpArgs false
namespace Go.Proofs.Ytlgonmnbedddaaa
open Go.RowKit

theorem best_in (xs : List Int) : ∀ s, s ≤ 8 → ∃ j, j < 8 ∧ bestTo xs s = turnL xs j
  | 0, _ => ⟨0, by omega, rfl⟩
  | s + 1, h => by
    unfold bestTo
    split
    · exact ⟨s, by omega, rfl⟩
    · exact best_in xs s (by omega)
theorem best_least (xs : List Int) : ∀ s j, j < s → ltB (turnL xs j) (bestTo xs s) = false
  | s + 1, j, h => by
    unfold bestTo
    by_cases hl : ltB (turnL xs s) (bestTo xs s) = true
    · rw [if_pos hl]
      by_cases e : j = s
      · subst e; exact ltB_irrefl _
      · exact ltB_not_trans (best_least xs s j (by omega)) hl
    · rw [if_neg hl]
      by_cases e : j = s
      · subst e; simpa using hl
      · exact best_least xs s j (by omega)
theorem first_best (xs : List Int) : firstL xs = bestTo xs 8 := by
  obtain ⟨j, h1, h2⟩ := first_in xs
  obtain ⟨k, h3, h4⟩ := best_in xs 8 (Nat.le_refl _)
  have h5 := best_least xs 8 j h1
  have h6 := first_least xs h3
  rw [← h2] at h5
  rw [← h4] at h6
  rcases ltB_tri (a := firstL xs) (b := bestTo xs 8) (by rw [firstL_len, bestTo_len]) with h | h | h
  · rw [h] at h5; cases h5
  · exact h
  · rw [h] at h6; cases h6

end Go.Proofs.Ytlgonmnbedddaaa
