/- The least of the orders that arise: plain lists. -/
import Derived.Test.YtlgonmnbedddaaaFirst
set_option linter.unusedVariables false
set_option linter.unusedSimpArgs false
namespace Go.Proofs.Ytlgonmnbedddaaa

theorem ltB_not_trans {a b c : List Int} (h1 : ltB a b = false) (h2 : ltB c b = true) : ltB a c = false := by
  rcases h : ltB a c with _ | _
  · rfl
  · rw [ltB_trans h h2] at h1; cases h1
theorem minTo_at (l : List (List Int)) : ∀ k, ∃ j, j ≤ k ∧ minTo l k = l.getD j []
  | 0 => ⟨0, Nat.le_refl _, rfl⟩
  | k + 1 => by
    unfold minTo
    split
    · exact ⟨k + 1, Nat.le_refl _, rfl⟩
    · obtain ⟨j, h1, h2⟩ := minTo_at l k
      exact ⟨j, by omega, h2⟩
theorem minTo_least (l : List (List Int)) : ∀ k j, j ≤ k → ltB (l.getD j []) (minTo l k) = false
  | 0, j, h => by
    obtain rfl : j = 0 := by omega
    exact ltB_irrefl _
  | k + 1, j, h => by
    unfold minTo
    by_cases hl : ltB (l.getD (k + 1) []) (minTo l k) = true
    · rw [if_pos hl]
      by_cases e : j = k + 1
      · subst e; exact ltB_irrefl _
      · exact ltB_not_trans (minTo_least l k j (by omega)) hl
    · rw [if_neg hl]
      by_cases e : j = k + 1
      · subst e; simpa using hl
      · exact minTo_least l k j (by omega)
theorem getD_of_mem {l : List (List Int)} {x : List Int} (h : x ∈ l) : ∃ j, j < l.length ∧ l.getD j [] = x := by
  obtain ⟨j, hj, e⟩ := List.getElem_of_mem h
  exact ⟨j, hj, by rw [List.getD_eq_getElem?_getD, List.getElem?_eq_getElem hj]; exact e⟩
/-- First is one of the turned orders, and none of these is less -/
theorem first_in (xs : List Int) : ∃ j, j < 8 ∧ firstL xs = turnL xs j := by
  have hp : 0 < (distTo xs 8).length := distTo_pos xs 7
  obtain ⟨j, h1, h2⟩ := minTo_at (distTo xs 8) ((distTo xs 8).length - 1)
  have hm : (distTo xs 8).getD j [] ∈ distTo xs 8 := by
    have hj : j < (distTo xs 8).length := by omega
    rw [List.getD_eq_getElem?_getD, List.getElem?_eq_getElem hj]; exact List.getElem_mem _
  obtain ⟨k, hk, e⟩ := (distTo_mem xs 8 _).1 hm
  exact ⟨k, hk, h2.trans e⟩
theorem first_least (xs : List Int) {j : Nat} (hj : j < 8) : ltB (turnL xs j) (firstL xs) = false := by
  obtain ⟨k, h1, h2⟩ := getD_of_mem ((distTo_mem xs 8 (turnL xs j)).2 ⟨j, hj, rfl⟩)
  rw [← h2]
  exact minTo_least _ _ _ (Nat.le_sub_one_of_lt h1)
end Go.Proofs.Ytlgonmnbedddaaa
