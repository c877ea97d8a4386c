/- StudFirsts: the least order, and the walk. -/
import Derived.Test.YtmklcollgbkliaaRFirst
import Derived.Test.YtmklcollgbkliaaFstLaw
import Derived.Test.YtmklcollgbkliaaROrd
import Derived.Test.YtmklcollgbkliaaList
import Derived.Test.YtmklcollgbkliaaLens
import Derived.Test.YtmklcollgbkliaaAwake
set_option linter.unusedVariables false
set_option linter.unusedSimpArgs false
namespace Go.Proofs.Ytmklcollgbkliaa
open Go.RowKit

theorem best_in (xs : List Int) : ∀ s, s ≤ 8 → ∃ j, j < 8 ∧ bestTo xs s = turnL xs j
  | 0, _ => ⟨0, by omega, rfl⟩
  | s + 1, h => by
    unfold bestTo
    split
    · exact ⟨s, by omega, rfl⟩
    · exact best_in xs s (by omega)
theorem best_least (xs : List Int) : ∀ s j, j < s → ltB (turnL xs j) (bestTo xs s) = false
  | s + 1, j, h => by
    unfold bestTo
    by_cases hl : ltB (turnL xs s) (bestTo xs s) = true
    · rw [if_pos hl]
      by_cases e : j = s
      · subst e; exact ltB_irrefl _
      · exact ltB_not_trans (best_least xs s j (by omega)) hl
    · rw [if_neg hl]
      by_cases e : j = s
      · subst e; simpa using hl
      · exact best_least xs s j (by omega)
theorem first_best (xs : List Int) : firstL xs = bestTo xs 8 := by
  obtain ⟨j, h1, h2⟩ := first_in xs
  obtain ⟨k, h3, h4⟩ := best_in xs 8 (Nat.le_refl _)
  have h5 := best_least xs 8 j h1
  have h6 := first_least xs h3
  rw [← h2] at h5
  rw [← h4] at h6
  rcases ltB_tri (a := firstL xs) (b := bestTo xs 8) (by rw [firstL_len, bestTo_len]) with h | h | h
  · rw [h] at h5; cases h5
  · exact h
  · rw [h] at h6; cases h6

set_option maxRecDepth 100000 in
set_option maxHeartbeats 3200000 in
theorem StudFirsts_walk (sl : Value) (xs : List Int) (w : World) (hr : Reads w sl xs) (hx : ∀ x ∈ xs, -9223372036854775808 ≤ x ∧ x ≤ 9223372036854775807) :
    Calls Try.prog 3 #[sl] w fun e w' => e = .returned (.bool true) ∧ Below w.heap.size w w' := by
  clear hx
  rcases ho : ordB (xs.take 17) with _ | _
  · have hc : firstS (xs.take 17) = ([], 0, 2) := by unfold firstS; rw [ho]; rfl
    have HC := Lib.hid hc
    have HO := Lib.hid ho
    clear hc ho
    generalize hys : xs.take 17 = ys at *
    go_enter Try.func3, Try.ntmps3
    go_wp2_with fail
    refine (list_any _ xs _ hr).mono ?_
    rintro e w1 ⟨l, rfl, hcol⟩
    rw [hys] at hcol
    have hb1 := hcol.below
    have hr1 := hcol.reads
    have hw1 := hcol.row.mono (Nat.zero_le _)
    clear hcol hr hys
    go_wp2_with fail
    refine (First_any _ _ _ hw1).mono ?_
    rintro e w2 ⟨v2, rfl, hcol2⟩
    rw [HC.out] at hcol2 ⊢
    obtain ⟨ta, tc, rfl⟩ := reads_nil hcol2.reads
    have hr2 := hr1.below hcol2.below
    have hb2 := hb1.trans (hcol2.below.mono hb1.size)
    clear hr1 hb1 hw1 hcol2
    go_wp2_with fail
    refine (refOrder_any _ _ _ hr2).mono ?_
    rintro e w5 ⟨rfl, m5, rfl⟩
    rw [HO.out]
    have hb5 := hb2.trans ((below_drewN w2 m5).mono hb2.size)
    generalize World.drewN w2 m5 = W5 at hb5 ⊢
    clear hb2 hr2
    go_wp2_with (go_at_call 7; refine (awake_any _).mono ?_; rintro e w6 ⟨rfl, hb6⟩)
    go_ret
    exact ⟨rfl, hb5.trans (hb6.mono hb5.size)⟩
  · have hc : firstS (xs.take 17) = (firstL (xs.take 17), (((distTo (xs.take 17) 8).length : Nat) : Int), 0) := by unfold firstS; rw [ho]; rfl
    have HC := Lib.hid hc
    have HO := Lib.hid ho
    clear hc ho
    generalize hys : xs.take 17 = ys at *
    go_enter Try.func3, Try.ntmps3
    go_wp2_with fail
    refine (list_any _ xs _ hr).mono ?_
    rintro e w1 ⟨l, rfl, hcol⟩
    rw [hys] at hcol
    have hb1 := hcol.below
    have hr1 := hcol.reads
    have hw1 := hcol.row.mono (Nat.zero_le _)
    clear hcol hr hys
    go_wp2_with fail
    refine (First_any _ _ _ hw1).mono ?_
    rintro e w2 ⟨v2, rfl, hcol2⟩
    rw [HC.out] at hcol2 ⊢
    have hf2 := hcol2.reads
    obtain ⟨ta, tl, tc, rfl⟩ : ∃ a m c, v2 = .slice a m c := by obtain ⟨a, c, h⟩ := reads_len hf2; exact ⟨a, _, c, h⟩
    have hr2 := hr1.below hcol2.below
    have hb2 := hb1.trans (hcol2.below.mono hb1.size)
    generalize hD : ((distTo ys 8).length : Nat) = dn at *
    have HD := Lib.hid hD
    clear hr1 hb1 hw1 hcol2 hD
    go_wp2_with fail
    refine (refOrder_any _ _ _ hr2).mono ?_
    rintro e w5 ⟨rfl, m5, rfl⟩
    rw [HO.out]
    have hb5 := hb2.trans ((below_drewN w2 m5).mono hb2.size)
    have hr5 := hr2.below (below_drewN w2 m5)
    have hf5 := hf2.below (below_drewN w2 m5)
    generalize World.drewN w2 m5 = W5 at hb5 hr5 hf5 ⊢
    clear hb2 hr2 hf2
    go_wp2_with fail
    refine (refFirst_any _ _ _ hr5 HO.out).mono ?_
    rintro e w6 ⟨v6, rfl, hw6, hb6⟩
    rw [← first_best] at hw6
    rw [HD.out]
    obtain ⟨ua, ul, uc, rfl⟩ : ∃ a m c, v6 = .slice a m c := by obtain ⟨a, c, h⟩ := reads_len hw6; exact ⟨a, _, c, h⟩
    have hf6 := hf5.below hb6
    have hb7 := hb5.trans (hb6.mono hb5.size)
    clear hb5 hr5 hf5 hb6
    go_wp2_with fail
    refine (ints_same _ _ _ _ hf6 hw6).mono ?_
    rintro e w10 ⟨rfl, m10, rfl⟩
    have hb10 := hb7.trans ((below_drewN w6 m10).mono hb7.size)
    generalize World.drewN w6 m10 = W10 at hb10 ⊢
    go_wp2_with (go_at_call 7; refine (awake_any _).mono ?_; rintro e w12 ⟨rfl, hb12⟩)
    go_ret
    exact ⟨rfl, hb10.trans (hb12.mono hb10.size)⟩
end Go.Proofs.Ytmklcollgbkliaa
