/- StudCompletes. -/
import Derived.Test.YtjjgegpglabppaaRCompl
import Derived.Test.YtjjgegpglabppaaList
import Derived.Test.YtjjgegpglabppaaAwake
set_option linter.unusedVariables false
set_option linter.unusedSimpArgs false
namespace Go.Proofs.Ytjjgegpglabppaa
open Go.RowKit

set_option maxRecDepth 100000 in
set_option maxHeartbeats 3200000 in
theorem StudCompletes_walk (sl : Value) (xs : List Int) (n : Int) (w : World) (hr : Reads w sl xs) (hx : ∀ x ∈ xs, -9223372036854775808 ≤ x ∧ x ≤ 9223372036854775807) (wn : -9223372036854775808 ≤ n ∧ n ≤ 9223372036854775807) :
    Calls Try.prog 3 #[sl, .int .i64 n] w fun e w' => e = .returned (.bool true) ∧ Below w.heap.size w w' := by
  clear hx wn
  rcases hw : withinB n 1 7 with _ | _
  · have hns : complS (xs.take 17) n = ([], 2) := by unfold complS; rw [hw]; rfl
    have ht : n < 1 ∨ 7 < n := by
      by_cases h1 : n < 1
      · exact .inl h1
      · by_cases h2 : 7 < n
        · exact .inr h2
        · rw [withinB_iff.2 ⟨by omega, by omega⟩] at hw; cases hw
    have HN := Lib.hid hns
    clear hns hw
    generalize hys : xs.take 17 = ys at *
    by_cases h1 : n < 1
    all_goals
      try have h2 : 7 < n := by omega
      clear ht
      go_enter Try.func3, Try.ntmps3
      go_wp2_with fail
      refine (list_any _ xs _ hr).mono ?_
      rintro e w1 ⟨l, rfl, hcol⟩
      rw [hys] at hcol
      have hb1 := hcol.below
      have hr1 := hcol.reads
      obtain ⟨la, ll, lc, rfl⟩ : ∃ a m c, l = .slice a m c := by obtain ⟨a, c, h⟩ := reads_len hr1; exact ⟨a, _, c, h⟩
      clear hcol hr hys
      go_wp2_with fail
      refine (Complete_any _ _ _ _ hr1).mono ?_
      rintro e w2 ⟨v, rfl, hrv, hb2⟩
      rw [HN.out] at hrv ⊢
      obtain ⟨va, vc, rfl⟩ := reads_nil hrv
      have hb3 := hb1.trans (hb2.mono hb1.size)
      clear hr1 hb1 hb2 hrv
      go_wp2_with (go_at_call 7; refine (awake_any _).mono ?_; rintro e w6 ⟨rfl, hb6⟩)
      go_ret
      exact ⟨rfl, hb3.trans (hb6.mono hb3.size)⟩
  · obtain ⟨h1, h7⟩ := withinB_iff.1 hw
    obtain ⟨m, rfl⟩ : ∃ m : Nat, n = m := ⟨n.toNat, by omega⟩
    have t1 : decide ((m : Int) < 1) = false := by simp; omega
    have t7 : decide (7 < (m : Int)) = false := by simp; omega
    rcases hst : (decide (((xs.take 17).length : Int) ≤ (m : Int)) && rowsB (xs.take 17) m) with _ | _
    · have hns : complS (xs.take 17) m = ([], 2) := by unfold complS; rw [hw, Bool.true_and, hst]; rfl
      have HST := Lib.hid hst
      have HN := Lib.hid hns
      clear hst hns hw
      generalize hys : xs.take 17 = ys at *
      go_enter Try.func3, Try.ntmps3
      go_wp2_with fail
      refine (list_any _ xs _ hr).mono ?_
      rintro e w1 ⟨l, rfl, hcol⟩
      rw [hys] at hcol
      have hb1 := hcol.below
      have hr1 := hcol.reads
      obtain ⟨la, ll, lc, rfl⟩ : ∃ a m c, l = .slice a m c := by obtain ⟨a, c, h⟩ := reads_len hr1; exact ⟨a, _, c, h⟩
      clear hcol hr hys
      go_wp2_with fail
      refine (Complete_any _ _ _ _ hr1).mono ?_
      rintro e w2 ⟨v, rfl, hrv, hb2⟩
      rw [HN.out] at hrv ⊢
      obtain ⟨va, vc, rfl⟩ := reads_nil hrv
      have hr2 := hr1.below hb2
      have hb3 := hb1.trans (hb2.mono hb1.size)
      clear hr1 hb1 hb2 hrv
      go_wp2_with fail
      refine (refStart_any _ _ _ _ hr2).mono ?_
      rintro e w3 ⟨rfl, m3, rfl⟩
      rw [HST.out]
      have hb4 := hb3.trans ((below_drewN w2 m3).mono hb3.size)
      generalize World.drewN w2 m3 = W3 at hb4 ⊢
      go_wp2_with (go_at_call 7; refine (awake_any _).mono ?_; rintro e w6 ⟨rfl, hb6⟩)
      go_ret
      exact ⟨rfl, hb4.trans (hb6.mono hb4.size)⟩
    · have hst2 := hst
      rw [Bool.and_eq_true, decide_eq_true_eq] at hst2
      obtain ⟨hle, hrows⟩ := hst2
      have hns : complS (xs.take 17) m = ((complR (xs.take 17) m).getD [], complE (complR (xs.take 17) m)) := by
        rw [← compl_same (by omega) hrows]; exact complS_ok hw (by omega) hrows
      have HST := Lib.hid hst
      have HN := Lib.hid hns
      have HLE : Hid ((xs.take 17).length ≤ m) := Lib.hid (by omega)
      clear hst hns hw hle hrows
      generalize hys : xs.take 17 = ys at *
      have hm7 : m ≤ 7 := by omega
      go_enter Try.func3, Try.ntmps3
      go_wp2_with fail
      refine (list_any _ xs _ hr).mono ?_
      rintro e w1 ⟨l, rfl, hcol⟩
      rw [hys] at hcol
      have hb1 := hcol.below
      have hr1 := hcol.reads
      obtain ⟨la, ll, lc, rfl⟩ : ∃ a m c, l = .slice a m c := by obtain ⟨a, c, h⟩ := reads_len hr1; exact ⟨a, _, c, h⟩
      clear hcol hr hys
      go_wp2_with fail
      refine (Complete_any _ _ _ _ hr1).mono ?_
      rintro e w2 ⟨v, rfl, hrv, hb2⟩
      rw [HN.out] at hrv ⊢
      have hr2 := hr1.below hb2
      have hb3 := hb1.trans (hb2.mono hb1.size)
      clear hr1 hb1 hb2
      go_wp2_with fail
      refine (refStart_any _ _ _ _ hr2).mono ?_
      rintro e w3 ⟨rfl, m3, rfl⟩
      rw [HST.out]
      have hb4 := hb3.trans ((below_drewN w2 m3).mono hb3.size)
      have hr4 := hr2.below (below_drewN w2 m3)
      have hrv4 := hrv.below (below_drewN w2 m3)
      generalize World.drewN w2 m3 = W3 at hb4 hr4 hrv4 ⊢
      clear hb3 hr2 hrv
      go_wp2_with fail
      refine (refComplete_any _ _ _ _ hr4 hm7 HLE.out).mono ?_
      rintro e w4 ⟨u, rfl, hru, hb5⟩
      have hrv5 := hrv4.below hb5
      have hb6 := hb4.trans (hb5.mono hb4.size)
      clear hb4 hb5 hr4 hrv4
      rcases hnl : complR ys m with _ | row
      · rw [hnl] at hrv5 hru
        have hoe : complE (none : Option (List Int)) = 6 := rfl
        rw [hoe]
        obtain ⟨va, vc, rfl⟩ := reads_nil hrv5
        obtain ⟨ua, uc, rfl⟩ := reads_nil hru
        go_wp2_with (go_at_call 7; refine (awake_any _).mono ?_; rintro e w7 ⟨rfl, hb7⟩)
        go_ret
        exact ⟨rfl, hb6.trans (hb7.mono hb6.size)⟩
      · rw [hnl] at hrv5 hru
        have hoe : complE (some row) = 0 := rfl
        rw [hoe]
        simp only [Option.getD_some, Option.isSome_some] at hrv5 hru ⊢
        obtain ⟨va, vl, vc, rfl⟩ : ∃ a m c, v = .slice a m c := by obtain ⟨a, c, h⟩ := reads_len hrv5; exact ⟨a, _, c, h⟩
        obtain ⟨ua, ul, uc, rfl⟩ : ∃ a m c, u = .slice a m c := by obtain ⟨a, c, h⟩ := reads_len hru; exact ⟨a, _, c, h⟩
        go_wp2_with fail
        refine (ints_same _ _ row _ hrv5 hru).mono ?_
        rintro e w7 ⟨rfl, m7, rfl⟩
        have hb8 := hb6.trans ((below_drewN w4 m7).mono hb6.size)
        generalize World.drewN w4 m7 = W8 at hb8 ⊢
        go_wp2_with (go_at_call 7; refine (awake_any _).mono ?_; rintro e w9 ⟨rfl, hb9⟩)
        go_ret
        exact ⟨rfl, hb8.trans (hb9.mono hb8.size)⟩
end Go.Proofs.Ytjjgegpglabppaa
