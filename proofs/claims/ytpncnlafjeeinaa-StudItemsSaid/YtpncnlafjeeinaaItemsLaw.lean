/- StudItems. -/
import Derived.Test.YtpncnlafjeeinaaItem
import Derived.Test.YtpncnlafjeeinaaRAll
import Derived.Test.YtpncnlafjeeinaaAwake
set_option linter.unusedVariables false
set_option linter.unusedSimpArgs false
namespace Go.Proofs.Ytpncnlafjeeinaa
open Go.RowKit

set_option maxRecDepth 100000 in
set_option maxHeartbeats 3200000 in
theorem StudItems_walk (n k : Int) (w : World) (wn : -9223372036854775808 ≤ n ∧ n ≤ 9223372036854775807) (wk : -9223372036854775808 ≤ k ∧ k ≤ 9223372036854775807) :
    Calls Try.prog 3 #[.int .i64 n, .int .i64 k] w fun e w' => e = .returned (.bool true) ∧ Below w.heap.size w w' := by
  obtain ⟨wk1, wk2⟩ := wk
  clear wn
  rcases hw : withinB n 1 7 with _ | _
  · have hcs : countS n = (0, 2) := by unfold countS; rw [hw]; rfl
    have his : itemS n k = ([], 2) := by unfold itemS; rw [hw]; rfl
    have HCS := Lib.hid hcs
    have HIS := Lib.hid his
    have HK := Lib.hid wk2
    have ht : n < 1 ∨ 7 < n := by
      by_cases h1 : n < 1
      · exact .inl h1
      · by_cases h2 : 7 < n
        · exact .inr h2
        · rw [withinB_iff.2 ⟨by omega, by omega⟩] at hw; cases hw
    clear hcs his hw wk1 wk2
    by_cases h1 : n < 1
    all_goals
      try have h2 : 7 < n := by omega
      clear ht
      go_enter Try.func3, Try.ntmps3
      go_wp2_with fail
      refine (Count_any n _).mono ?_
      rintro e w1 ⟨rfl, hb1⟩
      rw [HCS.out]
      go_wp2_with fail
      refine (Item_any n k _ HK.out).mono ?_
      rintro e w2 ⟨v, rfl, hr, hb2⟩
      rw [HIS.out] at hr ⊢
      obtain ⟨va, vc, rfl⟩ := reads_nil hr
      have hb := hb1.trans (hb2.mono hb1.size)
      clear hb1 hb2 hr
      go_wp2_with (go_at_call 6; refine (awake_any _).mono ?_; rintro e w6 ⟨rfl, hb6⟩)
      go_ret
      exact ⟨rfl, hb.trans (hb6.mono hb.size)⟩
  · obtain ⟨h1, h7⟩ := withinB_iff.1 hw
    obtain ⟨m, rfl⟩ : ∃ m : Nat, n = m := ⟨n.toNat, by omega⟩
    have hcs : countS m = (((allTo m m).length : Int), 0) := by unfold countS; rw [hw, all_clears]; rfl
    have h1' : (1 : Int) ≤ (m : Int) := h1
    have h7' : (m : Int) ≤ 7 := h7
    have h7d : decide (7 < (m : Int)) = false := by simp; omega
    have HLN := Lib.hid (allTo_len (n := m) (i := m) (by omega) (Nat.le_refl m))
    have HCS := Lib.hid hcs
    have HK := Lib.hid wk2
    clear hcs
    by_cases hkr : 0 ≤ k ∧ k < ((allTo m m).length : Int)
    · obtain ⟨j, rfl⟩ : ∃ j : Nat, k = j := ⟨k.toNat, by omega⟩
      obtain ⟨_, hkl⟩ := hkr
      have his : itemS m j = ((allTo m m).getD j [], 0) := by
        unfold itemS; rw [hw, decide_eq_true (by omega : (0 : Int) ≤ (j : Int))]
        simp only [Bool.true_and, ↓reduceIte, itemL, itemE, Int.toNat_natCast]
        have hkl2 : j < (clearsL m []).length := by rw [← all_clears]; omega
        rw [if_pos hkl2, all_clears]; simp [List.getD_eq_getElem?_getD]
      have HIS := Lib.hid his
      clear his hw
      go_enter Try.func3, Try.ntmps3
      go_wp2_with fail
      refine (Count_any _ _).mono ?_
      rintro e w1 ⟨rfl, hb1⟩
      rw [HCS.out]
      go_wp2_with fail
      refine (Item_any _ (j : Int) _ HK.out).mono ?_
      rintro e w2 ⟨v, rfl, hr, hb2⟩
      rw [HIS.out] at hr ⊢
      have hb := hb1.trans (hb2.mono hb1.size)
      clear hb1 hb2 HCS HIS
      go_wp2_with fail
      refine (refAll_any m _ (by omega)).mono ?_
      rintro e w3 ⟨v3, rfl, hm⟩
      have hb3 := hb.trans (hm.below.mono hb.size)
      have hr3 := hr.below hm.below
      clear hb hr
      obtain ⟨ao, co, rfl, _, _, hcells⟩ := hm.open
      generalize allTo m m = L at *
      generalize hL : L.length = k0 at *
      have HC := Lib.hid hcells
      clear hcells hL hm
      have hk0 : k0 ≤ 1000000 := HLN.out
      obtain ⟨b, r, rfl, hb, hc, hrow⟩ := HC.out j (by omega)
      generalize L.getD j [] = row at *
      obtain ⟨ra, rl, rc, rfl⟩ : ∃ a l c, r = .slice a l c := by obtain ⟨a, c, h⟩ := reads_len hrow.reads; exact ⟨a, _, c, h⟩
      obtain ⟨va, vl, vc, rfl⟩ : ∃ a l c, v = .slice a l c := by obtain ⟨a, c, h⟩ := reads_len hr3; exact ⟨a, _, c, h⟩
      have j0 : (0 : Int) ≤ (j : Int) := by omega
      have j1 : (j : Int) < (k0 : Int) := hkl
      go_wp2_with fail
      refine (ints_same _ _ row _ hr3 hrow.reads).mono ?_
      rintro e w4 ⟨rfl, m4, rfl⟩
      have hb4 := hb3.trans ((below_drewN w3 m4).mono hb3.size)
      generalize World.drewN w3 m4 = W4 at hb4 ⊢
      go_wp2_with (go_at_call 6; refine (awake_any _).mono ?_; rintro e w6 ⟨rfl, hb6⟩)
      go_ret
      exact ⟨rfl, hb4.trans (hb6.mono hb4.size)⟩
    · have hkr0 := hkr
      have his : itemS m k = ([], 2) := by
        unfold itemS; rw [hw]
        simp only [Bool.true_and, decide_eq_true_eq, itemL, itemE, Int.toNat_natCast]
        rw [all_clears] at hkr
        by_cases hk0 : 0 ≤ k
        · have hkl2 : ¬ k.toNat < (clearsL m []).length := fun h => hkr ⟨hk0, by omega⟩
          rw [if_pos hk0, if_neg hkl2, List.getElem?_eq_none (by omega)]; rfl
        · rw [if_neg hk0]
      have HIS := Lib.hid his
      clear his hw
      go_enter Try.func3, Try.ntmps3
      go_wp2_with fail
      refine (Count_any _ _).mono ?_
      rintro e w1 ⟨rfl, hb1⟩
      rw [HCS.out]
      go_wp2_with fail
      refine (Item_any _ k _ HK.out).mono ?_
      rintro e w2 ⟨v, rfl, hr, hb2⟩
      rw [HIS.out] at hr ⊢
      have hb := hb1.trans (hb2.mono hb1.size)
      clear hb1 hb2 HCS HIS
      go_wp2_with fail
      refine (refAll_any m _ (by omega)).mono ?_
      rintro e w3 ⟨v3, rfl, hm⟩
      have hb3 := hb.trans (hm.below.mono hb.size)
      have hr3 := hr.below hm.below
      clear hb hr
      obtain ⟨ao, co, rfl, _, _, hcells⟩ := hm.open
      generalize allTo m m = L at *
      generalize hL : L.length = k0 at *
      have HC := Lib.hid hcells
      clear hcells hL hm
      have hk0 : k0 ≤ 1000000 := HLN.out
      obtain ⟨va, vc, rfl⟩ := reads_nil hr3
      by_cases hk1 : k < 0
      all_goals
        try have hk2 : (k0 : Int) ≤ k := by omega
        clear hkr
        go_wp2_with (go_at_call 6; refine (awake_any _).mono ?_; rintro e w6 ⟨rfl, hb6⟩)
        go_ret
        exact ⟨rfl, hb3.trans (hb6.mono hb3.size)⟩
end Go.Proofs.Ytpncnlafjeeinaa
