/- Meeting, and the reference's Meeting. -/
import Derived.Test.YtdhamfbkjbgcaaaMeet
set_option linter.unusedVariables false
set_option linter.unusedSimpArgs false
namespace Go.Proofs.Ytdhamfbkjbgcaaa
open Go.RowKit

def meetS (xs : List Int) (u v : Int) : Int × Int := if ordB xs then (meetN xs u v xs.length, 0) else (0, 2)
theorem meetN_out {xs : List Int} {u v : Int} (ho : ordB xs = true) (h : u ≤ -(xs.length : Int) ∨ (xs.length : Int) ≤ u ∨ v ≤ -(xs.length : Int) ∨ (xs.length : Int) ≤ v) : meetN xs u v xs.length = 0 := by
  refine meetN_zero fun i hi => ?_
  by_cases hr : 0 ≤ (i : Int) + u ∧ (i : Int) + u < xs.length
  · obtain ⟨j, hj⟩ : ∃ j : Nat, (i : Int) + u = j := ⟨((i : Int) + u).toNat, by omega⟩
    rw [hit_at hj (by omega)]
    have h1 := ordB_small ho i
    have h2 := ordB_small ho j
    rw [decide_eq_false_iff_not]
    omega
  · exact hit_no1 hr

set_option maxRecDepth 100000 in
set_option maxHeartbeats 1600000 in
theorem refMeeting_any (sl : Value) (xs : List Int) (u v : Int) (w : World) (hr : Reads w sl xs) (ho : ordB xs = true) (hu : -9223372036854775808 ≤ u ∧ u ≤ 9223372036854775807) (hv : -9223372036854775808 ≤ v ∧ v ≤ 9223372036854775807) :
    Calls Try.prog 8 #[sl, .int .i64 u, .int .i64 v] w fun e w' => e = .returned (.int .i64 (meetN xs u v xs.length)) ∧ ∃ m, w' = w.drewN m := by
  obtain ⟨a, cap, rfl, h1, h2, hcell⟩ := hr.open
  have HSM := Lib.hid (ordB_small ho)
  obtain ⟨hl1, hl2⟩ := ordB_len ho
  have HO := Lib.hid ho
  obtain ⟨hu1, hu2⟩ := hu
  obtain ⟨hv1, hv2⟩ := hv
  clear h2 ho hr h1
  by_cases c1 : u ≤ -(xs.length : Int)
  · have HZ := Lib.hid (meetN_out (u := u) (v := v) HO.out (by omega))
    go_enter Try.func8, Try.ntmps8
    go_wp2_with fail
    go_ret
    exact ⟨ret_int (by rw [HZ.out]; rfl), 0, rfl⟩
  by_cases c2 : (xs.length : Int) ≤ u
  · have HZ := Lib.hid (meetN_out (u := u) (v := v) HO.out (by omega))
    go_enter Try.func8, Try.ntmps8
    go_wp2_with fail
    go_ret
    exact ⟨ret_int (by rw [HZ.out]; rfl), 0, rfl⟩
  by_cases c3 : v ≤ -(xs.length : Int)
  · have HZ := Lib.hid (meetN_out (u := u) (v := v) HO.out (by omega))
    go_enter Try.func8, Try.ntmps8
    go_wp2_with fail
    go_ret
    exact ⟨ret_int (by rw [HZ.out]; rfl), 0, rfl⟩
  by_cases c4 : (xs.length : Int) ≤ v
  · have HZ := Lib.hid (meetN_out (u := u) (v := v) HO.out (by omega))
    go_enter Try.func8, Try.ntmps8
    go_wp2_with fail
    go_ret
    exact ⟨ret_int (by rw [HZ.out]; rfl), 0, rfl⟩
  go_enter Try.func8, Try.ntmps8
  go_wp2_with fail
  go_loopw [8, 9] (fun n i wr => ∃ k m : Nat, k ≤ xs.length ∧ i = .int .i64 k ∧ n = .int .i64 (meetN xs u v k) ∧ wr = w.drewN m) (fun _ i _ => xs.length - (intOf i).toNat)
  case atStart => exact ⟨0, 0, by omega, rfl, rfl, rfl⟩
  case round =>
    obtain ⟨k, m, hk, rfl, rfl, rfl⟩ := hrel
    have hle := meetN_le xs u v k
    by_cases hlt : k < xs.length
    · obtain ⟨b, off, rfl, hb, hc⟩ := hcell k hlt
      have hk0 : (0 : Int) ≤ (k : Int) := by omega
      have hkl : (k : Int) < (xs.length : Int) := by omega
      have wr1 : IntKind.i64.wrap ((k : Int) + u) = (k : Int) + u := IntWalk.i64_in _ (by omega)
      by_cases hn : (k : Int) + u < 0
      · have hno : hitB xs u v k = false := hit_no1 (by omega)
        have HNO := Lib.hid hno
        have hd : decide (0 ≤ (k : Int) + u) = false := decide_eq_false (by omega)
        have hd2 : ¬ 0 ≤ (k : Int) + u := by omega
        clear hno hcell
        go_wp2_with fail
        go_quiet (fail)
        go_wp2_with fail
        go_roundw
        case rel => exact ⟨k + 1, _, by omega, by go_num, by rw [meetN_succ, HNO.out]; go_num, rfl⟩
        case measure => simp [intOf]; omega
      by_cases hp : (xs.length : Int) ≤ (k : Int) + u
      · have hno : hitB xs u v k = false := hit_no1 (by omega)
        have HNO := Lib.hid hno
        have hd : decide (0 ≤ (k : Int) + u) = true := decide_eq_true (by omega)
        have hd2 : 0 ≤ (k : Int) + u := by omega
        have hd3 : ((k : Int) + u < (xs.length : Int)) = False := eq_false (by omega)
        have hd4 : decide ((k : Int) + u < (xs.length : Int)) = false := decide_eq_false (by omega)
        clear hno hcell
        go_wp2_with fail
        go_quiet (fail)
        go_wp2_with fail
        go_roundw
        case rel => exact ⟨k + 1, _, by omega, by go_num, by rw [meetN_succ, HNO.out]; go_num, rfl⟩
        case measure => simp [intOf]; omega
      obtain ⟨j, hj⟩ : ∃ j : Nat, (k : Int) + u = j := ⟨((k : Int) + u).toNat, by omega⟩
      have hjl : j < xs.length := by omega
      obtain ⟨_, _, he, _, hcj⟩ := hcell j hjl
      cases he
      have HAT := Lib.hid (hit_at (xs := xs) (u := u) (v := v) hj hjl)
      have hs1 := HSM.out k
      have hs2 := HSM.out j
      obtain ⟨hs11, hs12⟩ := hs1
      obtain ⟨hs21, hs22⟩ := hs2
      have hj0 : (0 : Int) ≤ (j : Int) := by omega
      have hjl' : (j : Int) < (xs.length : Int) := by omega
      have wr2 : IntKind.i64.wrap (j : Int) = j := IntWalk.i64_in _ (by omega)
      have wr3 : IntKind.i64.wrap (gi xs k + v) = gi xs k + v := IntWalk.i64_in _ (by omega)
      clear hcell hn hp
      by_cases he : gi xs j = gi xs k + v
      · have HE : Hid (gi xs j - gi xs k = v) := Lib.hid (by omega)
        go_wp2_with fail
        go_quiet (fail)
        go_wp2_with fail
        go_roundw
        case rel => exact ⟨k + 1, _, by omega, by go_num, by rw [meetN_succ, HAT.out, decide_eq_true HE.out]; go_num, rfl⟩
        case measure => simp [intOf]; omega
      · have HE : Hid (¬ gi xs j - gi xs k = v) := Lib.hid (by omega)
        have he' : (gi xs j == gi xs k + v) = false := by simp [he]
        go_wp2_with fail
        go_quiet (fail)
        go_wp2_with fail
        go_roundw
        case rel => exact ⟨k + 1, _, by omega, by go_num, by rw [meetN_succ, HAT.out, decide_eq_false HE.out]; go_num, rfl⟩
        case measure => simp [intOf]; omega
    · have hkl : k = xs.length := by omega
      have HK := Lib.hid hkl
      clear hkl hcell
      go_wp2_with fail
      go_ret
      exact ⟨ret_int (by rw [HK.out]), _, rfl⟩
end Go.Proofs.Ytdhamfbkjbgcaaa
