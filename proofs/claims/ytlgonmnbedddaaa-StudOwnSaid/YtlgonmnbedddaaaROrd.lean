/- The reference's rows and Order. -/
import Derived.Test.YtlgonmnbedddaaaOrd
set_option linter.unusedVariables false
set_option linter.unusedSimpArgs false
namespace Go.Proofs.Ytlgonmnbedddaaa
open Go.RowKit

def rowsB (xs : List Int) (n : Int) : Bool := decide ((∀ x ∈ xs, 0 ≤ x ∧ x < n) ∧ xs.Nodup)
theorem rowsB_iff {xs : List Int} {n : Int} : rowsB xs n = true ↔ goodTo xs n xs.length := by
  simp only [rowsB, decide_eq_true_eq, goodTo, List.take_length]
  constructor
  · rintro ⟨h1, h2⟩; exact ⟨fun j hj => h1 _ (gi_mem hj), h2⟩
  · rintro ⟨h1, h2⟩
    refine ⟨fun x hx => ?_, h2⟩
    obtain ⟨j, hj, rfl⟩ := List.getElem_of_mem hx
    have := h1 j hj
    rwa [gi_lt hj] at this
theorem goodTo_le {xs : List Int} {n : Int} {k m : Nat} (h : goodTo xs n m) (hk : k ≤ m) : goodTo xs n k :=
  ⟨fun j hj => h.1 j (by omega), h.2.sublist (List.take_sublist_take_left hk)⟩
theorem rowsB_no {xs : List Int} {n : Int} {k : Nat} (hk : k ≤ xs.length) (h : ¬ goodTo xs n k) : rowsB xs n = false := by
  rcases hb : rowsB xs n with _ | _
  · rfl
  · exact absurd (goodTo_le (rowsB_iff.1 hb) hk) h

theorem notin_succ {xs : List Int} {k m : Nat} (hm : m < xs.length) (h : gi xs k ∉ xs.take m) (he : ¬ gi xs m = gi xs k) : gi xs k ∉ xs.take (m + 1) := by
  rw [mem_take_succ hm]; rintro (h1 | h1)
  · exact h h1
  · exact he h1

theorem ordB_rows (xs : List Int) : ordB xs = (decide (1 ≤ (xs.length : Int)) && (decide ((xs.length : Int) ≤ 16) && rowsB xs xs.length)) := by
  rw [Bool.eq_iff_iff]
  simp only [ordB, rowsB, Bool.and_eq_true, decide_eq_true_eq]
  constructor
  · rintro ⟨h1, h2, h3, h4⟩; exact ⟨by omega, by omega, h3, h4⟩
  · rintro ⟨h1, h2, h3, h4⟩; exact ⟨by omega, by omega, h3, h4⟩

end Go.Proofs.Ytlgonmnbedddaaa
