/- slices.Compare of two slices of ints of one length. -/
import Derived.Test.YtbkjdpdihnloeaaAllLaw
import Derived.Test.YtbkjdpdihnloeaaAwake
set_option linter.unusedVariables false
set_option linter.unusedSimpArgs false
namespace Go.Proofs.Ytbkjdpdihnloeaa
open Go.RowKit

def cmpI (x y : Int) : Int := if x < y then -1 else if y < x then 1 else 0
theorem isNaN_any (x : Int) (w : World) : Calls Try.prog 33 #[.int .i64 x] w fun e w' => e = .returned (.bool false) ∧ w = w' := by
  have h : (x != x) = false := by simp
  go_enter Try.func33, Try.ntmps33
  go_wp2
  go_ret
  exact ⟨rfl, rfl⟩
theorem cmpInt_any (x y : Int) (w : World) : Calls Try.prog 28 #[.int .i64 x, .int .i64 y] w fun e w' => e = .returned (.int .i64 (cmpI x y)) ∧ w = w' := by
  unfold cmpI
  by_cases h1 : x < y
  · rw [if_pos h1]
    go_enter Try.func28, Try.ntmps28
    go_wp2_with (go_at_call 33; refine (isNaN_any _ _).mono ?_; rintro e w' ⟨rfl, rfl⟩)
    go_ret
    exact ⟨rfl, rfl⟩
  · rw [if_neg h1]
    by_cases h2 : y < x
    · rw [if_pos h2]
      go_enter Try.func28, Try.ntmps28
      go_wp2_with (go_at_call 33; refine (isNaN_any _ _).mono ?_; rintro e w' ⟨rfl, rfl⟩)
      go_ret
      exact ⟨rfl, rfl⟩
    · rw [if_neg h2]
      go_enter Try.func28, Try.ntmps28
      go_wp2_with (go_at_call 33; refine (isNaN_any _ _).mono ?_; rintro e w' ⟨rfl, rfl⟩)
      go_ret
      exact ⟨rfl, rfl⟩

/-- -1, 0 or 1 -/
def cmpL (xs ys : List Int) : Int := if ltB xs ys then -1 else if ltB ys xs then 1 else 0
theorem ltB_at {xs ys : List Int} {k : Nat} (h1 : k < xs.length) (h2 : k < ys.length) (ht : xs.take k = ys.take k) (hne : gi xs k ≠ gi ys k) : ltB xs ys = decide (gi xs k < gi ys k) := by
  have e1 : xs = xs.take k ++ (gi xs k :: xs.drop (k + 1)) := by rw [gi_lt h1]; simp
  have e2 : ys = xs.take k ++ (gi ys k :: ys.drop (k + 1)) := by rw [gi_lt h2, ht]; simp
  generalize gi xs k = x at *
  generalize gi ys k = y at *
  rw [e1, e2, ltB_append]
  simp only [ltB]
  rw [if_neg hne]
theorem cmpL_at {xs ys : List Int} {k : Nat} (h1 : k < xs.length) (h2 : k < ys.length) (ht : xs.take k = ys.take k) (hne : gi xs k ≠ gi ys k) : cmpL xs ys = cmpI (gi xs k) (gi ys k) := by
  unfold cmpL cmpI
  rw [ltB_at h1 h2 ht hne, ltB_at h2 h1 ht.symm (fun e => hne e.symm)]
  simp
theorem cmpL_same (xs : List Int) : cmpL xs xs = 0 := by unfold cmpL; rw [ltB_irrefl]; rfl
theorem cmpI_zero {x y : Int} : cmpI x y = 0 ↔ x = y := by unfold cmpI; split <;> (try split) <;> constructor <;> intro h <;> omega
theorem cmpL_pos {xs ys : List Int} : 0 < cmpL xs ys ↔ ltB ys xs = true := by
  unfold cmpL
  by_cases h1 : ltB xs ys = true
  · rw [if_pos h1, ltB_asymm h1]; simp
  · rw [if_neg h1]
    by_cases h2 : ltB ys xs = true
    · rw [if_pos h2, h2]; simp
    · rw [if_neg h2]; simp [h2]
theorem cmpL_neg {xs ys : List Int} : cmpL xs ys < 0 ↔ ltB xs ys = true := by
  unfold cmpL
  by_cases h1 : ltB xs ys = true
  · rw [if_pos h1, h1]; simp
  · rw [if_neg h1]
    by_cases h2 : ltB ys xs = true
    · rw [if_pos h2]; simp [h1]
    · rw [if_neg h2]; simp [h1]

set_option maxRecDepth 100000 in
set_option maxHeartbeats 800000 in
theorem compare_any (v u : Value) (xs ys : List Int) (w : World) (hr : Reads w v xs) (hs : Reads w u ys) (hl : xs.length = ys.length) :
    Calls Try.prog 15 #[v, u] w fun e w' => e = .returned (.int .i64 (cmpL xs ys)) ∧ w = w' := by
  obtain ⟨a, cap, rfl, h1, h2, hcell⟩ := hr.open
  obtain ⟨a2, cap2, rfl, h12, h22, hcell2⟩ := hs.open
  have h3 : xs.length ≤ 9223372036854775807 := by unfold maxLen at h2; omega
  generalize hn : xs.length = n at *
  have HN := Lib.hid hn
  have HL := Lib.hid hl
  clear h2 h22 hr hs hn
  rw [← hl] at hcell2 h12 ⊢
  clear hl
  go_enter Try.func15, Try.ntmps15
  go_wp2_with fail
  go_loop [11] (fun i => ∃ k : Nat, k ≤ n ∧ i = .int .i64 k ∧ xs.take k = ys.take k) (fun i => n - (intOf i).toNat)
  case atStart => exact ⟨0, by omega, rfl, by simp⟩
  case round =>
    obtain ⟨k, hk, rfl, ht⟩ := hrel
    have HT := Lib.hid ht
    clear ht
    by_cases hlt : k < n
    · obtain ⟨b, off, rfl, hb, hc⟩ := hcell k hlt
      obtain ⟨b2, off2, rfl, hb2, hc2⟩ := hcell2 k hlt
      clear hcell hcell2
      have k0 : (0 : Int) ≤ (k : Int) := by omega
      have k1 : (k : Int) < (n : Int) := by omega
      by_cases he : gi xs k = gi ys k
      · have hz : cmpI (gi xs k) (gi ys k) = 0 := cmpI_zero.2 he
        have HZ := Lib.hid hz
        have HE := Lib.hid he
        clear hz he
        go_wp2_with (go_at_call 28; refine (cmpInt_any _ _ _).mono ?_; rintro e w' ⟨rfl, rfl⟩; rw [HZ.out])
        go_round
        case rel => exact ⟨k + 1, by omega, by go_num, take_eq_succ (by have := HN.out; omega) (by have := HN.out; have := HL.out; omega) HT.out HE.out⟩
        case measure => simp [intOf]; omega
      · have hz : (cmpI (gi xs k) (gi ys k) != 0) = true := by
          rw [bne_iff_ne]; intro h; exact he (cmpI_zero.1 h)
        have HE := Lib.hid he
        clear he
        go_wp2_with (go_at_call 28; refine (cmpInt_any _ _ _).mono ?_; rintro e w' ⟨rfl, rfl⟩)
        go_ret
        exact ⟨ret_int (cmpL_at (by have := HN.out; omega) (by have := HN.out; have := HL.out; omega) HT.out HE.out).symm, rfl⟩
    · obtain rfl : k = n := by omega
      have hsame : xs = ys := by
        have h := HT.out
        rwa [List.take_of_length_le (by have := HN.out; omega), List.take_of_length_le (by have := HN.out; have := HL.out; omega)] at h
      have HS := Lib.hid hsame
      clear hsame hcell hcell2
      go_wp2
      go_ret
      exact ⟨by rw [HS.out, cmpL_same]; rfl, rfl⟩
end Go.Proofs.Ytbkjdpdihnloeaa
