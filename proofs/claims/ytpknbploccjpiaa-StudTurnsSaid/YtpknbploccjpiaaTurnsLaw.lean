/- StudTurns. -/
import Derived.Test.YtpknbploccjpiaaTurn
import Derived.Test.YtpknbploccjpiaaRTurn
import Derived.Test.YtpknbploccjpiaaROrd
import Derived.Test.YtpknbploccjpiaaList
import Derived.Test.YtpknbploccjpiaaLens
import Derived.Test.YtpknbploccjpiaaAwake
set_option linter.unusedVariables false
set_option linter.unusedSimpArgs false
namespace Go.Proofs.Ytpknbploccjpiaa
open Go.RowKit

set_option maxRecDepth 100000 in
set_option maxHeartbeats 1600000 in
theorem StudTurns_walk (sl : Value) (xs : List Int) (s : Int) (w : World) (hr : Reads w sl xs) (hx : ∀ x ∈ xs, -9223372036854775808 ≤ x ∧ x ≤ 9223372036854775807) (hs : -9223372036854775808 ≤ s ∧ s ≤ 9223372036854775807) :
    Calls Try.prog 3 #[sl, .int .i64 s] w fun e w' => e = .returned (.bool true) ∧ Below w.heap.size w w' := by
  clear hx hs
  by_cases hc : (ordB (xs.take 17) && withinB s 0 7) = true
  · rw [Bool.and_eq_true] at hc
    obtain ⟨ho, hw⟩ := hc
    obtain ⟨hs0, hs7⟩ := withinB_iff.1 hw
    obtain ⟨t, rfl⟩ : ∃ t : Nat, s = t := ⟨s.toNat, by omega⟩
    have ht : t ≤ 7 := by omega
    have HO := Lib.hid ho
    clear ho hw
    go_enter Try.func3, Try.ntmps3
    go_wp2_with fail
    refine (list_any _ xs _ hr).mono ?_
    rintro e w1 ⟨l, rfl, hcol⟩
    have hb := hcol.below
    have hr1 := hcol.reads
    clear hcol hr
    go_wp2_with fail
    refine (Turn_ok _ _ t _ hr1 HO.out ht).mono ?_
    rintro e w2 ⟨v2, rfl, hcol2⟩
    have hr2 := hcol2.reads
    have hr12 := hr1.below hcol2.below
    have hb2 := hb.trans (hcol2.below.mono hb.size)
    clear hcol2 hr1 hb
    go_wp2_with fail
    refine (refOrder_any _ _ _ hr12).mono ?_
    rintro e w3 ⟨rfl, m, rfl⟩
    rw [HO.out]
    have hb3 := hb2.trans ((below_drewN w2 m).mono hb2.size)
    have hr13 := hr12.below (below_drewN w2 m)
    have hr23 := hr2.below (below_drewN w2 m)
    clear hb2 hr12 hr2
    generalize World.drewN w2 m = W3 at hb3 hr13 hr23 ⊢
    go_wp2_with fail
    refine (refTurn_any _ _ t _ hr13 HO.out ht).mono ?_
    rintro e w4 ⟨v4, rfl, hr4, hb4⟩
    have hb4' := hb3.trans (hb4.mono hb3.size)
    have hr24 := hr23.below hb4
    clear hb3 hb4 hr13 hr23
    go_wp2_with fail
    refine (ints_any _ _ _ _ _ hr24 hr4).mono ?_
    rintro e w5 ⟨rfl, m5, rfl⟩
    rw [decide_eq_true rfl]
    have hb5 := hb4'.trans ((below_drewN w4 m5).mono hb4'.size)
    generalize World.drewN w4 m5 = W5 at hb5 ⊢
    go_wp2_with (go_at_call 7; refine (awake_any _).mono ?_; rintro e w6 ⟨rfl, hb6⟩)
    go_ret
    exact ⟨rfl, hb5.trans (hb6.mono hb5.size)⟩
  · have hcf : (ordB (xs.take 17) && withinB s 0 7) = false := by simpa using hc
    have HCF := Lib.hid hcf
    rcases ho : ordB (xs.take 17) with _ | _
    · have HO := Lib.hid ho
      clear ho hc hcf
      go_enter Try.func3, Try.ntmps3
      go_wp2_with fail
      refine (list_any _ xs _ hr).mono ?_
      rintro e w1 ⟨l, rfl, hcol⟩
      have hb := hcol.below
      have hr1 := hcol.reads
      clear hcol hr
      go_wp2_with fail
      refine (Turn_err _ _ s _ hr1 HCF.out).mono ?_
      rintro e w2 ⟨v2, rfl, hcol2⟩
      obtain ⟨a, cap, rfl⟩ := reads_len hcol2.reads
      have hr12 := hr1.below hcol2.below
      have hb2 := hb.trans (hcol2.below.mono hb.size)
      clear hcol2 hr1 hb
      go_wp2_with fail
      refine (refOrder_any _ _ _ hr12).mono ?_
      rintro e w3 ⟨rfl, m, rfl⟩
      rw [HO.out]
      have hb3 := hb2.trans ((below_drewN w2 m).mono hb2.size)
      generalize World.drewN w2 m = W3 at hb3 ⊢
      go_wp2_with (go_at_call 7; refine (awake_any _).mono ?_; rintro e w6 ⟨rfl, hb6⟩)
      go_ret
      exact ⟨rfl, hb3.trans (hb6.mono hb3.size)⟩
    · have hso : s < 0 ∨ (0 ≤ s ∧ 7 < s) := by
        rw [ho, Bool.true_and] at hcf
        by_cases h0 : s < 0
        · exact .inl h0
        · by_cases h7 : 7 < s
          · exact .inr ⟨by omega, h7⟩
          · rw [withinB_iff.2 ⟨by omega, by omega⟩] at hcf; cases hcf
      have HO := Lib.hid ho
      clear ho hc hcf
      rcases hso with hso | ⟨hso, hso7⟩
      all_goals
        go_enter Try.func3, Try.ntmps3
        go_wp2_with fail
        refine (list_any _ xs _ hr).mono ?_
        rintro e w1 ⟨l, rfl, hcol⟩
        have hb := hcol.below
        have hr1 := hcol.reads
        clear hcol hr
        go_wp2_with fail
        refine (Turn_err _ _ s _ hr1 HCF.out).mono ?_
        rintro e w2 ⟨v2, rfl, hcol2⟩
        obtain ⟨a, cap, rfl⟩ := reads_len hcol2.reads
        have hr12 := hr1.below hcol2.below
        have hb2 := hb.trans (hcol2.below.mono hb.size)
        clear hcol2 hr1 hb
        go_wp2_with fail
        refine (refOrder_any _ _ _ hr12).mono ?_
        rintro e w3 ⟨rfl, m, rfl⟩
        rw [HO.out]
        have hb3 := hb2.trans ((below_drewN w2 m).mono hb2.size)
        generalize World.drewN w2 m = W3 at hb3 ⊢
        go_wp2_with (go_at_call 7; refine (awake_any _).mono ?_; rintro e w6 ⟨rfl, hb6⟩)
        go_ret
        exact ⟨rfl, hb3.trans (hb6.mono hb3.size)⟩
end Go.Proofs.Ytpknbploccjpiaa
