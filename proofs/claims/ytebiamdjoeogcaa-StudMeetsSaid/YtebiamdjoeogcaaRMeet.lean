/- Meeting, and the reference's Meeting. -/
import Derived.Test.YtebiamdjoeogcaaMeet
set_option linter.unusedVariables false
set_option linter.unusedSimpArgs false
namespace Go.Proofs.Ytebiamdjoeogcaa
open Go.RowKit

def meetS (xs : List Int) (u v : Int) : Int × Int := if ordB xs then (meetN xs u v xs.length, 0) else (0, 2)
set_option maxHeartbeats 800000 in
theorem Meeting_any (sl : Value) (xs : List Int) (u v : Int) (w : World) (hr : Reads w sl xs) (hu : -9223372036854775808 ≤ u ∧ u ≤ 9223372036854775807) :
    Calls Try.prog 6 #[sl, .int .i64 u, .int .i64 v] w fun e w' => e = .returned (.tuple #[.int .i64 (meetS xs u v).1, .int .i64 (meetS xs u v).2]) ∧ w = w' := by
  rcases ho : ordB xs with _ | _
  · have hs : meetS xs u v = (0, 2) := by unfold meetS; rw [ho]; rfl
    have HO := Lib.hid ho
    have HS := Lib.hid hs
    rw [hs]
    clear ho hs
    go_enter Try.func6, Try.ntmps6
    go_wp2_with (go_at_call 8; refine (isOrder_any _ _ _ hr).mono ?_; rintro e w' ⟨rfl, rfl⟩; rw [HO.out])
    go_ret2
    exact ⟨rfl, rfl⟩
  · have hs : meetS xs u v = ((meetN xs u v xs.length : Int), 0) := by unfold meetS; rw [ho]; rfl
    have HO := Lib.hid ho
    have HS := Lib.hid hs
    rw [hs]
    clear ho hs
    go_enter Try.func6, Try.ntmps6
    go_wp2_with (first
      | (go_at_call 8; refine (isOrder_any _ _ _ hr).mono ?_; rintro e w' ⟨rfl, rfl⟩; rw [HO.out])
      | (go_at_call 9; refine (meeting_any _ _ _ _ _ hr HO.out hu).mono ?_; rintro e w' ⟨rfl, rfl⟩))
    go_ret2
    exact ⟨rfl, rfl⟩

theorem meetN_out {xs : List Int} {u v : Int} (ho : ordB xs = true) (h : u ≤ -(xs.length : Int) ∨ (xs.length : Int) ≤ u ∨ v ≤ -(xs.length : Int) ∨ (xs.length : Int) ≤ v) : meetN xs u v xs.length = 0 := by
  refine meetN_zero fun i hi => ?_
  by_cases hr : 0 ≤ (i : Int) + u ∧ (i : Int) + u < xs.length
  · obtain ⟨j, hj⟩ : ∃ j : Nat, (i : Int) + u = j := ⟨((i : Int) + u).toNat, by omega⟩
    rw [hit_at hj (by omega)]
    have h1 := ordB_small ho i
    have h2 := ordB_small ho j
    rw [decide_eq_false_iff_not]
    omega
  · exact hit_no1 hr

end Go.Proofs.Ytebiamdjoeogcaa
