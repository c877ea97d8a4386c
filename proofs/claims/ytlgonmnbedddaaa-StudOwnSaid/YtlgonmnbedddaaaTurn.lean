/- Turn. -/
import Derived.Test.YtlgonmnbedddaaaTurned
import Derived.Test.YtlgonmnbedddaaaWb
set_option linter.unusedVariables false
set_option linter.unusedSimpArgs false
namespace Go.Proofs.Ytlgonmnbedddaaa
open Go.RowKit

set_option maxHeartbeats 800000 in
theorem Turn_ok (v : Value) (xs : List Int) (s : Nat) (w : World) (hr : Reads w v xs) (ho : ordB xs = true) (hs : s ≤ 7) :
    Calls Try.prog 7 #[v, .int .i64 s] w (RetInts w (turnL xs s) 0) := by
  have HO := Lib.hid ho
  have HW : Hid (withinB (s : Int) 0 7 = true) := Lib.hid (withinB_iff.2 ⟨by omega, by omega⟩)
  have HL : Hid ((turnL xs s).length ≤ 1000000) := Lib.hid (by unfold turnL; rw [len_stage]; have := (ordB_len ho).2; omega)
  clear ho
  go_enter Try.func7, Try.ntmps7
  go_wp2_with (first
    | (go_at_call 16; refine (isOrder_any _ _ _ hr).mono ?_; rintro e w' ⟨rfl, rfl⟩; rw [HO.out])
    | (go_at_call 17; refine (within_any _ _ _ _).mono ?_; rintro e w' ⟨rfl, rfl⟩; rw [HW.out]))
  refine (turned_any _ xs s _ hr HO.out hs).mono ?_
  rintro e w1 ⟨v1, rfl, hr1, hb1⟩
  go_wp2_with fail
  refine (cloneO_any _ _ _ hr1 HL.out).mono ?_
  rintro e w2 ⟨v2, rfl, hcol⟩
  go_wp2_with fail
  go_ret2
  exact ⟨_, rfl, hcol.lower hb1⟩

set_option maxHeartbeats 800000 in
theorem Turn_err (v : Value) (xs : List Int) (s : Int) (w : World) (hr : Reads w v xs) (h : (ordB xs && withinB s 0 7) = false) :
    Calls Try.prog 7 #[v, .int .i64 s] w (RetInts w [] 2) := by
  rcases ho : ordB xs with _ | _
  · have HO := Lib.hid ho
    clear ho h
    go_enter Try.func7, Try.ntmps7
    go_wp2_with (first
      | (go_at_call 16; refine (isOrder_any _ _ _ hr).mono ?_; rintro e w' ⟨rfl, rfl⟩; rw [HO.out]))
    go_ret2
    exact RetInts.err _ _
  · rw [ho, Bool.true_and] at h
    have HO := Lib.hid ho
    have HW := Lib.hid h
    clear ho h
    go_enter Try.func7, Try.ntmps7
    go_wp2_with (first
      | (go_at_call 16; refine (isOrder_any _ _ _ hr).mono ?_; rintro e w' ⟨rfl, rfl⟩; rw [HO.out])
      | (go_at_call 17; refine (within_any _ _ _ _).mono ?_; rintro e w' ⟨rfl, rfl⟩; rw [HW.out]))
    go_ret2
    exact RetInts.err _ _
end Go.Proofs.Ytlgonmnbedddaaa
