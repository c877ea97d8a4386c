/- The meeting of an order with itself. -/
import Derived.Test.YtlgonmnbedddaaaOrd
set_option linter.unusedVariables false
set_option linter.unusedSimpArgs false
namespace Go.Proofs.Ytlgonmnbedddaaa
open Go.RowKit

def hitB (xs : List Int) (u v : Int) (i : Nat) : Bool := decide (0 ≤ (i : Int) + u ∧ (i : Int) + u < xs.length) && decide (gi xs ((i : Int) + u).toNat - gi xs i = v)
def meetN (xs : List Int) (u v : Int) (k : Nat) : Nat := (List.range k).countP (hitB xs u v)
theorem meetN_succ (xs : List Int) (u v : Int) (k : Nat) : meetN xs u v (k + 1) = meetN xs u v k + if hitB xs u v k = true then 1 else 0 := by
  unfold meetN; rw [List.range_succ, List.countP_append]; simp [List.countP_cons]
theorem meetN_le (xs : List Int) (u v : Int) (k : Nat) : meetN xs u v k ≤ k := by
  have := List.countP_le_length (p := hitB xs u v) (l := List.range k)
  simpa [meetN] using this
theorem meetN_zero {xs : List Int} {u v : Int} {k : Nat} (h : ∀ i, i < k → hitB xs u v i = false) : meetN xs u v k = 0 := by
  unfold meetN; rw [List.countP_eq_zero]; intro i hi; rw [h i (by simpa using hi)]; simp
theorem hit_no1 {xs : List Int} {u v : Int} {i : Nat} (h : ¬ (0 ≤ (i : Int) + u ∧ (i : Int) + u < xs.length)) : hitB xs u v i = false := by
  unfold hitB; rw [decide_eq_false h]; rfl
theorem hit_at {xs : List Int} {u v : Int} {i j : Nat} (h : (i : Int) + u = j) (hj : j < xs.length) : hitB xs u v i = decide (gi xs j - gi xs i = v) := by
  unfold hitB; rw [h, decide_eq_true (by omega : (0 : Int) ≤ (j : Int) ∧ (j : Int) < xs.length), Bool.true_and]; simp
theorem ordB_small {xs : List Int} (h : ordB xs = true) : ∀ j, 0 ≤ gi xs j ∧ gi xs j ≤ (xs.length : Int) - 1 := by
  have hl := (ordB_len h).1
  simp only [ordB, decide_eq_true_eq] at h
  intro j
  by_cases hj : j < xs.length
  · have := h.2.2.1 _ (gi_mem hj); omega
  · have : gi xs j = 0 := by simp [gi, List.getElem?_eq_none (Nat.le_of_not_lt hj)]
    omega

set_option maxRecDepth 100000 in
set_option maxHeartbeats 1600000 in
theorem meeting_any (sl : Value) (xs : List Int) (u v : Int) (w : World) (hr : Reads w sl xs) (ho : ordB xs = true) (hu : -9223372036854775808 ≤ u ∧ u ≤ 9223372036854775807) :
    Calls Try.prog 28 #[sl, .int .i64 u, .int .i64 v] w fun e w' => e = .returned (.int .i64 (meetN xs u v xs.length)) ∧ w = w' := by
  obtain ⟨a, cap, rfl, h1, h2, hcell⟩ := hr.open
  have hsm := ordB_small ho
  obtain ⟨hl1, hl2⟩ := ordB_len ho
  obtain ⟨hu1, hu2⟩ := hu
  have HSM := Lib.hid hsm
  clear h2 ho hsm hr h1
  by_cases hw : withinB u (-(xs.length : Int)) xs.length = true
  · have hw2 := withinB_iff.1 hw
    obtain ⟨hw3, hw4⟩ := hw2
    have HW := Lib.hid hw
    clear hw
    go_enter Try.func28, Try.ntmps28
    go_wp2_with (go_at_call 17; refine (within_any _ _ _ _).mono ?_; rintro e w' ⟨rfl, rfl⟩; rw [HW.out])
    go_loop [7, 20] (fun n i => ∃ k : Nat, k ≤ xs.length ∧ i = .int .i64 k ∧ n = .int .i64 (meetN xs u v k)) (fun _ i => xs.length - (intOf i).toNat)
    case atStart => exact ⟨0, by omega, rfl, rfl⟩
    case round =>
      obtain ⟨k, hk, rfl, rfl⟩ := hrel
      have hle := meetN_le xs u v k
      by_cases hlt : k < xs.length
      · obtain ⟨b, off, rfl, hb, hc⟩ := hcell k hlt
        have hk0 : (0 : Int) ≤ (k : Int) := by omega
        have hkl : (k : Int) < (xs.length : Int) := by omega
        by_cases hin : withinB ((k : Int) + u) 0 ((xs.length : Int) - 1) = true
        · have hin2 := withinB_iff.1 hin
          obtain ⟨j, hj⟩ : ∃ j : Nat, (k : Int) + u = j := ⟨((k : Int) + u).toNat, by omega⟩
          have hjl : j < xs.length := by omega
          obtain ⟨_, _, he, _, hcj⟩ := hcell j hjl
          cases he
          have hat := hit_at (xs := xs) (u := u) (v := v) hj hjl
          rw [hj] at hin
          have HI := Lib.hid hin
          have HAT := Lib.hid hat
          have hs1 := HSM.out k
          have hs2 := HSM.out j
          obtain ⟨hs11, hs12⟩ := hs1
          obtain ⟨hs21, hs22⟩ := hs2
          have hj0 : (0 : Int) ≤ (j : Int) := by omega
          have hjl' : (j : Int) < (xs.length : Int) := by omega
          clear hin hat hin2 hcell
          by_cases he : gi xs j - gi xs k = v
          · have he' : ((gi xs j - gi xs k) == v) = true := by simp [he]
            have HE := Lib.hid he
            clear he
            go_wp2_with (go_at_call 17; refine (within_any _ _ _ _).mono ?_; rintro e w' ⟨rfl, rfl⟩; (try rw [hj]); rw [HI.out])
            go_round
            case rel => exact ⟨k + 1, by omega, by go_num, by rw [meetN_succ, HAT.out, decide_eq_true HE.out]; go_num⟩
            case measure => simp [intOf]; omega
          · have he' : ((gi xs j - gi xs k) == v) = false := by simp [he]
            have HE := Lib.hid he
            clear he
            go_wp2_with (go_at_call 17; refine (within_any _ _ _ _).mono ?_; rintro e w' ⟨rfl, rfl⟩; (try rw [hj]); rw [HI.out])
            go_round
            case rel => exact ⟨k + 1, by omega, by go_num, by rw [meetN_succ, HAT.out, decide_eq_false HE.out]; go_num⟩
            case measure => simp [intOf]; omega
        · have hin' : withinB ((k : Int) + u) 0 ((xs.length : Int) - 1) = false := by simpa using hin
          have hno : hitB xs u v k = false := hit_no1 (fun h => hin (withinB_iff.2 ⟨h.1, by omega⟩))
          have HI := Lib.hid hin'
          have HNO := Lib.hid hno
          clear hin hin' hno hcell
          go_wp2_with (go_at_call 17; refine (within_any _ _ _ _).mono ?_; rintro e w' ⟨rfl, rfl⟩; rw [HI.out])
          go_round
          case rel => exact ⟨k + 1, by omega, by go_num, by rw [meetN_succ, HNO.out]; go_num⟩
          case measure => simp [intOf]; omega
      · have hkl : k = xs.length := by omega
        have HK := Lib.hid hkl
        clear hkl hcell
        go_wp2_with fail
        go_ret
        exact ⟨ret_int (by rw [HK.out]), rfl⟩
  · have hw' : withinB u (-(xs.length : Int)) xs.length = false := by simpa using hw
    have hz : meetN xs u v xs.length = 0 := meetN_zero fun i hi => hit_no1 fun h => hw (withinB_iff.2 ⟨by omega, by omega⟩)
    have HW := Lib.hid hw'
    have HZ := Lib.hid hz
    clear hw hw' hz hcell
    go_enter Try.func28, Try.ntmps28
    go_wp2_with (go_at_call 17; refine (within_any _ _ _ _).mono ?_; rintro e w' ⟨rfl, rfl⟩; rw [HW.out])
    go_ret
    exact ⟨ret_int (by rw [HZ.out]; rfl), rfl⟩
end Go.Proofs.Ytlgonmnbedddaaa
