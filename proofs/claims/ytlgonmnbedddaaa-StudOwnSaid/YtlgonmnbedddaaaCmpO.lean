/- slices.Compare, slices.Equal of two orders of one length; slices.ContainsFunc and slices.MinFunc of slices of orders; First's own function. -/
import Derived.Test.YtlgonmnbedddaaaCmp
import Derived.Test.YtlgonmnbedddaaaMat
set_option linter.unusedVariables false
set_option linter.unusedSimpArgs false
namespace Go.Proofs.Ytlgonmnbedddaaa
open Go.RowKit

set_option maxRecDepth 100000 in
set_option maxHeartbeats 800000 in
theorem compareO_any (v u : Value) (xs ys : List Int) (w : World) (hr : Reads w v xs) (hs : Reads w u ys) (hl : xs.length = ys.length) :
    Calls Try.prog 24 #[v, u] w fun e w' => e = .returned (.int .i64 (cmpL xs ys)) ∧ w = w' := by
  obtain ⟨a, cap, rfl, h1, h2, hcell⟩ := hr.open
  obtain ⟨a2, cap2, rfl, h12, h22, hcell2⟩ := hs.open
  have h3 : xs.length ≤ 9223372036854775807 := by unfold maxLen at h2; omega
  generalize hn : xs.length = n at *
  have HN := Lib.hid hn
  have HL := Lib.hid hl
  clear h2 h22 hr hs hn
  rw [← hl] at hcell2 h12 ⊢
  clear hl
  go_enter Try.func24, Try.ntmps24
  go_wp2_with fail
  go_loop [11] (fun i => ∃ k : Nat, k ≤ n ∧ i = .int .i64 k ∧ xs.take k = ys.take k) (fun i => n - (intOf i).toNat)
  case atStart => exact ⟨0, by omega, rfl, by simp⟩
  case round =>
    obtain ⟨k, hk, rfl, ht⟩ := hrel
    have HT := Lib.hid ht
    clear ht
    by_cases hlt : k < n
    · obtain ⟨b, off, rfl, hb, hc⟩ := hcell k hlt
      obtain ⟨b2, off2, rfl, hb2, hc2⟩ := hcell2 k hlt
      clear hcell hcell2
      have k0 : (0 : Int) ≤ (k : Int) := by omega
      have k1 : (k : Int) < (n : Int) := by omega
      by_cases he : gi xs k = gi ys k
      · have hz : cmpI (gi xs k) (gi ys k) = 0 := cmpI_zero.2 he
        have HZ := Lib.hid hz
        have HE := Lib.hid he
        clear hz he
        go_wp2_with (go_at_call 39; refine (cmpInt_any _ _ _).mono ?_; rintro e w' ⟨rfl, rfl⟩; rw [HZ.out])
        go_round
        case rel => exact ⟨k + 1, by omega, by go_num, take_eq_succ (by have := HN.out; omega) (by have := HN.out; have := HL.out; omega) HT.out HE.out⟩
        case measure => simp [intOf]; omega
      · have hz : (cmpI (gi xs k) (gi ys k) != 0) = true := by
          rw [bne_iff_ne]; intro h; exact he (cmpI_zero.1 h)
        have HE := Lib.hid he
        clear he
        go_wp2_with (go_at_call 39; refine (cmpInt_any _ _ _).mono ?_; rintro e w' ⟨rfl, rfl⟩)
        go_ret
        exact ⟨ret_int (cmpL_at (by have := HN.out; omega) (by have := HN.out; have := HL.out; omega) HT.out HE.out).symm, rfl⟩
    · obtain rfl : k = n := by omega
      have hsame : xs = ys := by
        have h := HT.out
        rwa [List.take_of_length_le (by have := HN.out; omega), List.take_of_length_le (by have := HN.out; have := HL.out; omega)] at h
      have HS := Lib.hid hsame
      clear hsame hcell hcell2
      go_wp2
      go_ret
      exact ⟨by rw [HS.out, cmpL_same]; rfl, rfl⟩

set_option maxRecDepth 100000 in
set_option maxHeartbeats 800000 in
theorem equalO_any (v u : Value) (xs ys : List Int) (w : World) (hr : Reads w v xs) (hs : Reads w u ys) (hl : xs.length = ys.length) :
    Calls Try.prog 22 #[v, u] w fun e w' => e = .returned (.bool (decide (xs = ys))) ∧ ∃ m, w' = w.drewN m := by
  obtain ⟨a, cap, rfl, h1, h2, hcell⟩ := hr.open
  obtain ⟨a2, cap2, rfl, h12, h22, hcell2⟩ := hs.open
  have h3 : xs.length ≤ 9223372036854775807 := by unfold maxLen at h2; omega
  generalize hn : xs.length = n at *
  have HN := Lib.hid hn
  have HL := Lib.hid hl
  clear h2 h22 hr hs hn
  rw [← hl] at hcell2 h12 ⊢
  clear hl
  go_enter Try.func22, Try.ntmps22
  go_wp2_with fail
  go_loopw [13] (fun i wr => ∃ (k m : Nat), k ≤ n ∧ i = .int .i64 k ∧ xs.take k = ys.take k ∧ wr = w.drewN m) (fun i _ => n - (intOf i).toNat)
  case atStart => exact ⟨0, 0, by omega, rfl, by simp, rfl⟩
  case round =>
    obtain ⟨k, m, hk, rfl, ht, rfl⟩ := hrel
    have HT := Lib.hid ht
    clear ht
    by_cases hlt : k < n
    · obtain ⟨b, off, rfl, hb, hc⟩ := hcell k hlt
      obtain ⟨b2, off2, rfl, hb2, hc2⟩ := hcell2 k hlt
      clear hcell hcell2
      have k0 : (0 : Int) ≤ (k : Int) := by omega
      have k1 : (k : Int) < (n : Int) := by omega
      by_cases he : gi xs k = gi ys k
      · have hz : (gi xs k != gi ys k) = false := by simp [he]
        have HE := Lib.hid he
        clear he
        go_wp2_with fail
        go_quiet (fail)
        go_wp2_with fail
        go_roundw
        case rel => exact ⟨k + 1, _, by omega, by go_num, take_eq_succ (by have := HN.out; omega) (by have := HN.out; have := HL.out; omega) HT.out HE.out, by first | rfl | exact World.drewN_drewN ..⟩
        case measure => simp [intOf]; omega
      · have hz : (gi xs k != gi ys k) = true := by simp [he]
        have HE : Hid (decide (xs = ys) = false) := Lib.hid (by
          rw [decide_eq_false_iff_not]
          intro h; exact he (by rw [h]))
        clear he
        go_wp2_with fail
        go_quiet (fail)
        go_wp2_with fail
        go_ret
        exact ⟨ret_bool HE.out.symm, _, by first | rfl | exact World.drewN_drewN ..⟩
    · obtain rfl : k = n := by omega
      have hsame : xs = ys := by
        have h := HT.out
        rwa [List.take_of_length_le (by have := HN.out; omega), List.take_of_length_le (by have := HN.out; have := HL.out; omega)] at h
      have HS : Hid (decide (xs = ys) = true) := Lib.hid (decide_eq_true hsame)
      clear hsame hcell hcell2
      go_wp2
      go_ret
      exact ⟨ret_bool HS.out.symm, m, rfl⟩
end Go.Proofs.Ytlgonmnbedddaaa
