/- StudNexts. -/
import Derived.Test.YtokbdiejkkaedaaRNext
import Derived.Test.YtokbdiejkkaedaaList
import Derived.Test.YtokbdiejkkaedaaAwake
set_option linter.unusedVariables false
set_option linter.unusedSimpArgs false
namespace Go.Proofs.Ytokbdiejkkaedaa
open Go.RowKit

set_option maxRecDepth 100000 in
set_option maxHeartbeats 3200000 in
theorem StudNexts_walk (sl : Value) (xs : List Int) (w : World) (hr : Reads w sl xs) (hx : ∀ x ∈ xs, -9223372036854775808 ≤ x ∧ x ≤ 9223372036854775807) :
    Calls Try.prog 3 #[sl] w fun e w' => e = .returned (.bool true) ∧ Below w.heap.size w w' := by
  clear hx
  rcases ho : ordB (xs.take 17) with _ | _
  · have hns : nextS (xs.take 17) = ([], 2) := by unfold nextS; rw [ho]; rfl
    have HO := Lib.hid ho
    have HN := Lib.hid hns
    clear ho hns
    generalize hys : xs.take 17 = ys at *
    go_enter Try.func3, Try.ntmps3
    go_wp2_with fail
    refine (list_any _ xs _ hr).mono ?_
    rintro e w1 ⟨l, rfl, hcol⟩
    rw [hys] at hcol
    have hb1 := hcol.below
    have hr1 := hcol.reads
    obtain ⟨la, ll, lc, rfl⟩ : ∃ a m c, l = .slice a m c := by obtain ⟨a, c, h⟩ := reads_len hr1; exact ⟨a, _, c, h⟩
    clear hcol hr hys
    go_wp2_with fail
    refine (Next_any _ _ _ hr1).mono ?_
    rintro e w2 ⟨v, rfl, hrv, hb2⟩
    rw [HN.out] at hrv ⊢
    obtain ⟨va, vc, rfl⟩ := reads_nil hrv
    have hr2 := hr1.below hb2
    have hb3 := hb1.trans (hb2.mono hb1.size)
    clear hr1 hb1 hb2 hrv
    go_wp2_with fail
    refine (refOrder_any _ _ _ hr2).mono ?_
    rintro e w3 ⟨rfl, m, rfl⟩
    rw [HO.out]
    have hb4 := hb3.trans ((below_drewN w2 m).mono hb3.size)
    generalize World.drewN w2 m = W3 at hb4 ⊢
    go_wp2_with (go_at_call 7; refine (awake_any _).mono ?_; rintro e w6 ⟨rfl, hb6⟩)
    go_ret
    exact ⟨rfl, hb4.trans (hb6.mono hb4.size)⟩
  · by_cases h7 : (xs.take 17).length ≤ 7
    · have hns : nextS (xs.take 17) = ((nextL (xs.take 17)).getD [], optE (nextL (xs.take 17)) 6) := by unfold nextS; rw [ho, decide_eq_true h7]; rfl
      have HO := Lib.hid ho
      have HN := Lib.hid hns
      clear ho hns
      generalize hys : xs.take 17 = ys at *
      have t7 : decide (7 < (ys.length : Int)) = false := by simp; omega
      have H7 := Lib.hid h7
      clear h7
      go_enter Try.func3, Try.ntmps3
      go_wp2_with fail
      refine (list_any _ xs _ hr).mono ?_
      rintro e w1 ⟨l, rfl, hcol⟩
      rw [hys] at hcol
      have hb1 := hcol.below
      have hr1 := hcol.reads
      obtain ⟨la, lc, rfl⟩ := reads_len hr1
      clear hcol hr hys
      go_wp2_with fail
      refine (Next_any _ _ _ hr1).mono ?_
      rintro e w2 ⟨v, rfl, hrv, hb2⟩
      rw [HN.out] at hrv ⊢
      have hr2 := hr1.below hb2
      have hb3 := hb1.trans (hb2.mono hb1.size)
      clear hr1 hb1 hb2
      go_wp2_with fail
      refine (refOrder_any _ _ _ hr2).mono ?_
      rintro e w3 ⟨rfl, m, rfl⟩
      rw [HO.out]
      have hb4 := hb3.trans ((below_drewN w2 m).mono hb3.size)
      have hr4 := hr2.below (below_drewN w2 m)
      have hrv4 := hrv.below (below_drewN w2 m)
      generalize World.drewN w2 m = W3 at hb4 hr4 hrv4 ⊢
      clear hb3 hr2 hrv
      go_wp2_with fail
      refine (refNext_any _ _ _ hr4 H7.out).mono ?_
      rintro e w4 ⟨u, rfl, hru, hb5⟩
      have hrv5 := hrv4.below hb5
      have hb6 := hb4.trans (hb5.mono hb4.size)
      clear hb4 hb5 hr4 hrv4
      rcases hnl : nextL ys with _ | row
      · rw [hnl] at hrv5 hru
        have hoe : optE (none : Option (List Int)) 6 = 6 := rfl
        rw [hoe]
        obtain ⟨va, vc, rfl⟩ := reads_nil hrv5
        obtain ⟨ua, uc, rfl⟩ := reads_nil hru
        go_wp2_with (go_at_call 7; refine (awake_any _).mono ?_; rintro e w7 ⟨rfl, hb7⟩)
        go_ret
        exact ⟨rfl, hb6.trans (hb7.mono hb6.size)⟩
      · rw [hnl] at hrv5 hru
        have hoe : optE (some row) 6 = 0 := rfl
        rw [hoe]
        simp only [Option.getD_some, Option.isSome_some] at hrv5 hru ⊢
        obtain ⟨va, vl, vc, rfl⟩ : ∃ a m c, v = .slice a m c := by obtain ⟨a, c, h⟩ := reads_len hrv5; exact ⟨a, _, c, h⟩
        obtain ⟨ua, ul, uc, rfl⟩ : ∃ a m c, u = .slice a m c := by obtain ⟨a, c, h⟩ := reads_len hru; exact ⟨a, _, c, h⟩
        go_wp2_with fail
        refine (ints_same _ _ row _ hrv5 hru).mono ?_
        rintro e w7 ⟨rfl, m7, rfl⟩
        have hb8 := hb6.trans ((below_drewN w4 m7).mono hb6.size)
        generalize World.drewN w4 m7 = W8 at hb8 ⊢
        go_wp2_with (go_at_call 7; refine (awake_any _).mono ?_; rintro e w9 ⟨rfl, hb9⟩)
        go_ret
        exact ⟨rfl, hb8.trans (hb9.mono hb8.size)⟩
    · have hns : nextS (xs.take 17) = ([], 2) := by unfold nextS; rw [decide_eq_false h7]; simp
      have HO := Lib.hid ho
      have HN := Lib.hid hns
      clear ho hns
      generalize hys : xs.take 17 = ys at *
      have t7 : decide (7 < (ys.length : Int)) = true := by simp; omega
      clear h7
      go_enter Try.func3, Try.ntmps3
      go_wp2_with fail
      refine (list_any _ xs _ hr).mono ?_
      rintro e w1 ⟨l, rfl, hcol⟩
      rw [hys] at hcol
      have hb1 := hcol.below
      have hr1 := hcol.reads
      obtain ⟨la, lc, rfl⟩ := reads_len hr1
      clear hcol hr hys
      go_wp2_with fail
      refine (Next_any _ _ _ hr1).mono ?_
      rintro e w2 ⟨v, rfl, hrv, hb2⟩
      rw [HN.out] at hrv ⊢
      obtain ⟨va, vc, rfl⟩ := reads_nil hrv
      have hr2 := hr1.below hb2
      have hb3 := hb1.trans (hb2.mono hb1.size)
      clear hr1 hb1 hb2 hrv
      go_wp2_with fail
      refine (refOrder_any _ _ _ hr2).mono ?_
      rintro e w3 ⟨rfl, m, rfl⟩
      rw [HO.out]
      have hb4 := hb3.trans ((below_drewN w2 m).mono hb3.size)
      generalize World.drewN w2 m = W3 at hb4 ⊢
      go_wp2_with (go_at_call 7; refine (awake_any _).mono ?_; rintro e w6 ⟨rfl, hb6⟩)
      go_ret
      exact ⟨rfl, hb4.trans (hb6.mono hb4.size)⟩
end Go.Proofs.Ytokbdiejkkaedaa
