/- The reference's Roots. -/
import Derived.Test.YtgonofgoaomnfaaRefP
import Derived.Test.YtgonofgoaomnfaaWr
set_option linter.unusedVariables false
set_option linter.unusedSimpArgs false
namespace Go.Proofs.Ytgonofgoaomnfaa
open Go.RowKit

theorem rootB_zero (p : Int) : rootB p ((0 : Nat) : Int) = false := rootB_out (by omega)

set_option maxHeartbeats 800000 in
theorem refRoots_any (p : Int) (w : World) (hp : primeB p = true) :
    Calls Try.prog 11 #[.int .i64 p] w fun e w' => ∃ v, e = .returned v ∧ Col w w' v (rootsL p p.toNat) := by
  obtain ⟨h3, h17⟩ := primeB_rng hp
  have HP := Lib.hid hp
  clear hp
  go_enter Try.func11, Try.ntmps11
  go_wp2_with fail
  go_loopw [3, 4] (fun v i wr => ∃ k : Nat, 1 ≤ k ∧ (k : Int) ≤ p ∧ i = .int .i64 k ∧ Col w wr v (rootsL p k)) (fun _ i _ => (p - intOf i).toNat)
  case atStart => exact ⟨1, by omega, by omega, rfl, by rw [show (1 : Nat) = 0 + 1 from rfl, rootsL_succ, rootB_zero]; exact Col.nil _⟩
  case round =>
    obtain ⟨k, hk1, hk, rfl, hcol⟩ := hrel
    by_cases hlt2 : (k : Int) < p
    · have hL := rootsL_len p k
      by_cases hr : rootB p k = true
      · have HR := Lib.hid hr
        clear hr
        go_wp2_with (first
          | (go_at_call 23; refine (refRoot_any _ _ _ HP.out ⟨by omega, by omega⟩).mono ?_; rintro e w1 ⟨rfl, rfl⟩; rw [HR.out])
          | (at_builtin; refine append_int rfl _ _ rfl hcol rfl _ rfl (by omega) ?_; intro v' w' hcol' hne))
        go_roundw
        case rel => exact ⟨k + 1, by omega, by omega, by go_num, by rw [rootsL_succ, if_pos HR.out]; exact hcol'⟩
        case measure => simp [intOf]; omega
      · have hr' : rootB p k = false := by simpa using hr
        have HR := Lib.hid hr'
        clear hr hr'
        go_wp2_with (first
          | (go_at_call 23; refine (refRoot_any _ _ _ HP.out ⟨by omega, by omega⟩).mono ?_; rintro e w1 ⟨rfl, rfl⟩; rw [HR.out]))
        go_roundw
        case rel => exact ⟨k + 1, by omega, by omega, by go_num, by rw [rootsL_succ, HR.out]; simpa using hcol⟩
        case measure => simp [intOf]; omega
    · have hkp : p.toNat = k := by omega
      have HK := Lib.hid hkp
      clear hkp
      go_wp2_with fail
      go_ret
      exact ⟨_, rfl, by rw [HK.out]; exact hcol⟩

end Go.Proofs.Ytgonofgoaomnfaa
