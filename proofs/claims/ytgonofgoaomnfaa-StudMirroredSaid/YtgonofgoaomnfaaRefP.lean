/- The reference's powers, roots and logs. -/
import Derived.Test.YtgonofgoaomnfaaWc
set_option linter.unusedVariables false
set_option linter.unusedSimpArgs false
namespace Go.Proofs.Ytgonofgoaomnfaa
open Go.RowKit

set_option maxHeartbeats 400000 in
theorem power_any (p g : Int) (n : Nat) (w : World) (h2 : 2 ≤ p) (h17 : p ≤ 17) (h0 : 0 ≤ g) (h1 : g < p) (hn : n ≤ 1000) :
    Calls Try.prog 31 #[.int .i64 p, .int .i64 g, .int .i64 n] w fun e w' => e = .returned (.int .i64 (pw p g n)) ∧ w = w' := by
  go_enter Try.func31, Try.ntmps31
  go_wp2_with fail
  go_loop [7, 8] (fun x i => ∃ k : Nat, k ≤ n ∧ i = .int .i64 k ∧ x = .int .i64 (pw p g k)) (fun _ i => n - (intOf i).toNat)
  case atStart => exact ⟨0, by omega, rfl, rfl⟩
  case round =>
    obtain ⟨k, hk, rfl, rfl⟩ := hrel
    have hr := pw_rng (p := p) (g := g) h2 k
    have hm : 0 ≤ pw p g k * g := Int.mul_nonneg hr.1 h0
    have hm2 : pw p g k * g ≤ 17 * 17 := Int.mul_le_mul (by omega) (by omega) h0 (by omega)
    obtain ⟨hr1, hr2⟩ := hr
    by_cases hlt : k < n
    · go_wp2_with fail
      go_round
      case rel => exact ⟨k + 1, by omega, by go_num, rfl⟩
      case measure => simp [intOf]; omega
    · have hkn : n = k := by omega
      have HK := Lib.hid hkn
      clear hkn
      go_wp2_with fail
      go_ret
      exact ⟨ret_int (by rw [HK.out]), rfl⟩

theorem power_at (p g : Int) (n : Nat) (x : Int) (w : World) (hx : x = n) (h2 : 2 ≤ p) (h17 : p ≤ 17) (h0 : 0 ≤ g) (h1 : g < p) (hn : n ≤ 1000) :
    Calls Try.prog 31 #[.int .i64 p, .int .i64 g, .int .i64 x] w fun e w' => e = .returned (.int .i64 (pw p g n)) ∧ w = w' := by
  subst hx; exact power_any p g n w h2 h17 h0 h1 hn

theorem power_to (p g x : Int) (w : World) (hx : 0 ≤ x ∧ x ≤ 1000) (h2 : 2 ≤ p) (h17 : p ≤ 17) (h0 : 0 ≤ g) (h1 : g < p) :
    Calls Try.prog 31 #[.int .i64 p, .int .i64 g, .int .i64 x] w fun e w' => e = .returned (.int .i64 (pw p g x.toNat)) ∧ w = w' :=
  power_at p g x.toNat x w (by omega) h2 h17 h0 h1 (by omega)

theorem fermat {p g : Int} (hp : primeB p = true) (h1 : 1 ≤ g) (h2 : g < p) : pw p g (p.toNat - 1) = 1 := by
  have hg : g = 1 ∨ g = 2 ∨ g = 3 ∨ g = 4 ∨ g = 5 ∨ g = 6 ∨ g = 7 ∨ g = 8 ∨ g = 9 ∨ g = 10 ∨ g = 11 ∨ g = 12 ∨ g = 13 ∨ g = 14 ∨ g = 15 ∨ g = 16 := by have := (primeB_rng hp).2; omega
  rcases primeB_cases hp with h | h | h | h | h | h <;> subst h <;>
    rcases hg with h | h | h | h | h | h | h | h | h | h | h | h | h | h | h | h <;> subst h <;> first | rfl | omega

/-- whether a number is a root, for a prime: the root, too, lies in its bounds -/
theorem rootB_out {p g : Int} (h : ¬ (1 ≤ g ∧ g < p)) : rootB p g = false := by
  unfold rootB
  rcases hw : withinB g 1 (p - 1) with _ | _
  · simp
  · have := withinB_iff.1 hw; omega
theorem rootB_at {p g : Int} {n : Nat} (hp : primeB p = true) (h1 : 1 ≤ g) (h2 : g < p) (hn : 1 ≤ n) (hnp : n ≤ p.toNat - 1) (hm : ∀ j, 1 ≤ j → j < n → pw p g j ≠ 1) (he : pw p g n = 1) : rootB p g = decide ((n : Int) = p - 1) := by
  have hr := primeB_rng hp
  have hi : idx (pwL p g (p.toNat - 1)) 1 = (n - 1 : Nat) := by
    refine idx_at (by rw [pwL_len]; omega) (by rw [gi_pwL (by omega), show n - 1 + 1 = n by omega, he]) ?_
    intro hmem
    rw [List.mem_take_iff_getElem] at hmem
    obtain ⟨i, hi, hi2⟩ := hmem
    rw [pwL_len] at hi
    have : (pwL p g (p.toNat - 1))[i]'(by rw [pwL_len]; omega) = pw p g (i + 1) := by simp [pwL]
    rw [this] at hi2
    exact hm (i + 1) (by omega) (by omega) hi2
  have hw : withinB g 1 (p - 1) = true := withinB_iff.2 ⟨h1, by omega⟩
  unfold rootB
  rw [hp, hw, hi, Bool.true_and, Bool.true_and]
  rw [decide_eq_decide]
  omega

set_option maxHeartbeats 400000 in
theorem refRoot_any (p g : Int) (w : World) (hp : primeB p = true) (hg : -9223372036854775808 ≤ g ∧ g ≤ 9223372036854775807) :
    Calls Try.prog 23 #[.int .i64 p, .int .i64 g] w fun e w' => e = .returned (.bool (rootB p g)) ∧ w = w' := by
  have hr := primeB_rng hp
  obtain ⟨h3, h17⟩ := hr
  obtain ⟨hg1, hg2⟩ := hg
  have HP := Lib.hid hp
  clear hp
  by_cases h1 : 1 ≤ g
  · by_cases h2 : g < p
    · go_enter Try.func23, Try.ntmps23
      go_wp2_with fail
      go_loop [5] (fun i => ∃ n : Nat, 1 ≤ n ∧ n ≤ p.toNat - 1 ∧ i = .int .i64 n ∧ ∀ j, 1 ≤ j → j < n → pw p g j ≠ 1) (fun i => (p - intOf i).toNat)
      case atStart => exact ⟨1, by omega, by omega, rfl, by omega⟩
      case round =>
        obtain ⟨n, hn1, hn2, rfl, hn3⟩ := hrel
        have HN := Lib.hid hn3
        clear hn3
        by_cases he : pw p g n = 1
        · have he' : (pw p g n == 1) = true := by simpa using he
          have HE := Lib.hid he
          clear he
          go_wp2_with (go_at_call 31; refine (power_any p g n _ (by omega) h17 (by omega) h2 (by omega)).mono ?_; rintro e w' ⟨rfl, rfl⟩)
          go_ret
          exact ⟨ret_bool (by rw [rootB_at HP.out h1 h2 hn1 hn2 HN.out HE.out]; rfl), rfl⟩
        · have he' : (pw p g n == 1) = false := by simpa using he
          have hne : n ≠ p.toNat - 1 := fun e => he (by rw [e]; exact fermat HP.out h1 h2)
          have HE := Lib.hid he
          clear he
          go_wp2_with (go_at_call 31; refine (power_any p g n _ (by omega) h17 (by omega) h2 (by omega)).mono ?_; rintro e w' ⟨rfl, rfl⟩)
          go_round
          case rel => exact ⟨n + 1, by omega, by omega, by go_num, fun j hj1 hj2 => by
            by_cases e : j = n
            · rw [e]; exact HE.out
            · exact HN.out j hj1 (by omega)⟩
          case measure => simp [intOf]; omega
    · go_enter Try.func23, Try.ntmps23
      go_wp2_with fail
      all_goals (go_ret; exact ⟨ret_bool (rootB_out (by omega)).symm, rfl⟩)
  · go_enter Try.func23, Try.ntmps23
    go_wp2_with fail
    all_goals (go_ret; exact ⟨ret_bool (rootB_out (by omega)).symm, rfl⟩)
end Go.Proofs.Ytgonofgoaomnfaa
