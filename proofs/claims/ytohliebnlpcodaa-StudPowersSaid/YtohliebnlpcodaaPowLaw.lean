/- StudPowers. -/
import Derived.Test.YtohliebnlpcodaaRefP
import Derived.Test.YtohliebnlpcodaaAwake
set_option linter.unusedVariables false
set_option linter.unusedSimpArgs false
namespace Go.Proofs.Ytohliebnlpcodaa
open Go.RowKit

theorem pw_period {p g : Int} (hp : primeB p = true) (h1 : 1 ≤ g) (h2 : g < p) : ∀ k, pw p g (k + (p.toNat - 1)) = pw p g k
  | 0 => by rw [Nat.zero_add, fermat hp h1 h2]; rfl
  | k + 1 => by rw [show k + 1 + (p.toNat - 1) = (k + (p.toNat - 1)) + 1 by omega, pw, pw_period hp h1 h2 k]; rfl
theorem pw_mod {p g s : Int} {i : Nat} (hp : primeB p = true) (h1 : 1 ≤ g) (h2 : g < p) (hi : (i : Int) < p - 1) (hs0 : 0 ≤ s) (hs1 : s ≤ p - 2) : pw p g (((i : Int) + s) % (p - 1)).toNat = pw p g (i + s.toNat) := by
  have hr := primeB_rng hp
  by_cases h : (i : Int) + s < p - 1
  · rw [Int.emod_eq_of_lt (by omega) h]; congr 1; omega
  · have e : ((i : Int) + s) % (p - 1) = (i : Int) + s - (p - 1) := by
      rw [← Int.sub_emod_right ((i : Int) + s) (p - 1)]
      exact Int.emod_eq_of_lt (by omega) (by omega)
    rw [e, ← pw_period hp h1 h2 ((i : Int) + s - (p - 1)).toNat]
    congr 1; omega

set_option maxHeartbeats 800000 in
theorem refPowers_any (p g s : Int) (w : World) (h1 : rootB p g = true) (hs0 : 0 ≤ s) (hs1 : s ≤ p - 2) :
    Calls Try.prog 9 #[.int .i64 p, .int .i64 g, .int .i64 s] w fun e w' => ∃ v, e = .returned v ∧ Col w w' v (powersL p g s (p.toNat - 1)) := by
  obtain ⟨hp, hg1, hg2⟩ := rootB_prime h1
  obtain ⟨h3, h17⟩ := primeB_rng hp
  have HP := Lib.hid hp
  clear h1 hp
  obtain ⟨t, rfl⟩ : ∃ t : Nat, s = t := ⟨s.toNat, by omega⟩
  go_enter Try.func9, Try.ntmps9
  go_wp2_with fail
  go_loopw [7, 8] (fun v i wr => ∃ k : Nat, (k : Int) ≤ p - 1 ∧ i = .int .i64 k ∧ Col w wr v (powersL p g t k)) (fun _ i _ => (p - intOf i).toNat)
  case atStart => exact ⟨0, by omega, rfl, Col.nil _⟩
  case round =>
    obtain ⟨k, hk, rfl, hcol⟩ := hrel
    by_cases hlt2 : (k : Int) < p - 1
    · have hL := powersL_len p g t k
      have HL := Lib.hid hL
      clear hL
      have hpr := pw_rng (p := p) (g := g) (by omega) (k + t)
      obtain ⟨hp1, hp2⟩ := hpr
      go_wp2_with (first
        | (go_at_call 13; refine (power_any p g (k + t) _ (by omega) h17 (by omega) (by omega) (by omega)).mono ?_; rintro e w' ⟨rfl, rfl⟩)
        | (at_builtin; refine append_int rfl _ _ rfl hcol rfl _ rfl (by rw [HL.out]; omega) ?_; intro v' w' hcol' hne))
      go_roundw
      case rel => exact ⟨k + 1, by omega, by go_num, by rw [powersL_succ, pw_mod HP.out hg1 (by omega) hlt2 hs0 hs1]; exact hcol'⟩
      case measure => simp [intOf]; omega
    · have hkp : p.toNat - 1 = k := by omega
      have HK := Lib.hid hkp
      clear hkp
      go_wp2_with fail
      go_ret
      exact ⟨_, rfl, by rw [HK.out]; exact hcol⟩

theorem reads_len {w : World} {v : Value} {xs : List Int} (h : Reads w v xs) : ∃ a cap, v = .slice a xs.length cap := by
  obtain ⟨a, cap, h1, _⟩ := h
  exact ⟨a, cap, h1⟩

set_option maxRecDepth 100000 in
set_option maxHeartbeats 1600000 in
theorem StudPowers_walk (p g s : Int) (w : World) (wp : -9223372036854775808 ≤ p ∧ p ≤ 9223372036854775807) (wg : -9223372036854775808 ≤ g ∧ g ≤ 9223372036854775807) (ws : -9223372036854775808 ≤ s ∧ s ≤ 9223372036854775807) :
    Calls Try.prog 3 #[.int .i64 p, .int .i64 g, .int .i64 s] w fun e w' => e = .returned (.bool true) ∧ Below w.heap.size w w' := by
  obtain ⟨wp1, wp2⟩ := wp
  obtain ⟨wg1, wg2⟩ := wg
  obtain ⟨ws1, ws2⟩ := ws
  by_cases hp : primeB p = true
  · obtain ⟨h3, h17⟩ := primeB_rng hp
    by_cases hr : rootB p g = true
    · by_cases hs : 0 ≤ s ∧ s ≤ p - 2
      · have hS : powersS p g s = (powersL p g s (p.toNat - 1), 0) := by unfold powersS; rw [hr, withinB_iff.2 hs]; rfl
        obtain ⟨hs0, hs1⟩ := hs
        have HP := Lib.hid hp
        have HR := Lib.hid hr
        have HS := Lib.hid hS
        clear hp hr hS
        go_enter Try.func3, Try.ntmps3
        go_wp2_with fail
        refine (Powers_any p g s _ ⟨by omega, by omega⟩).mono ?_
        rintro e w1 ⟨v, rfl, hcol⟩
        rw [HS.out] at hcol ⊢
        obtain ⟨a, cap, rfl⟩ := reads_len hcol.reads
        go_wp2_with (first
          | (go_at_call 5; refine (refPrime_any _ _ (by omega)).mono ?_; rintro e w' ⟨rfl, rfl⟩; rw [HP.out])
          | (go_at_call 6; refine (refRoot_any _ _ _ HP.out ⟨by omega, by omega⟩).mono ?_; rintro e w' ⟨rfl, rfl⟩; rw [HR.out]))
        refine (refPowers_any p g s _ HR.out hs0 hs1).mono ?_
        rintro e w2 ⟨u, rfl, hcol2⟩
        go_wp2_with fail
        refine (ints_any _ _ _ _ _ (hcol.reads.below hcol2.below) hcol2.reads).mono ?_
        rintro e w3 ⟨rfl, m, rfl⟩
        rw [decide_eq_true rfl]
        have hb := (hcol.below.trans (hcol2.below.mono hcol.below.size)).trans ((below_drewN w2 m).mono (Nat.le_trans hcol.below.size hcol2.below.size))
        generalize hW : World.drewN w2 m = W at hb ⊢
        go_wp2_with (go_at_call 7; refine (awake_any _).mono ?_; rintro e w5 ⟨rfl, hb5⟩)
        go_ret
        exact ⟨rfl, hb.trans (hb5.mono hb.size)⟩
      · have hS : powersS p g s = ([], 2) := by
          unfold powersS
          have : withinB s 0 (p - 2) = false := by
            rcases hw : withinB s 0 (p - 2) with _ | _
            · rfl
            · exact absurd (withinB_iff.1 hw) hs
          rw [this]; simp
        have HP := Lib.hid hp
        have HR := Lib.hid hr
        have HS := Lib.hid hS
        have hs' : s < 0 ∨ p - 2 < s := by omega
        clear hp hr hS hs
        rcases hs' with hs' | hs'
        · go_enter Try.func3, Try.ntmps3
          go_wp2_with fail
          refine (Powers_any p g s _ ⟨by omega, by omega⟩).mono ?_
          rintro e w1 ⟨v, rfl, hcol⟩
          rw [HS.out] at hcol ⊢
          obtain ⟨a, cap, rfl⟩ := reads_len hcol.reads
          have hb := hcol.below
          go_wp2_with (first
            | (go_at_call 5; refine (refPrime_any _ _ (by omega)).mono ?_; rintro e w' ⟨rfl, rfl⟩; rw [HP.out])
            | (go_at_call 6; refine (refRoot_any _ _ _ HP.out ⟨by omega, by omega⟩).mono ?_; rintro e w' ⟨rfl, rfl⟩; rw [HR.out])
            | (go_at_call 7; refine (awake_any _).mono ?_; rintro e w5 ⟨rfl, hb5⟩))
          all_goals (go_ret; exact ⟨rfl, hb.trans (hb5.mono hb.size)⟩)
        · have hs0 : 0 ≤ s := by omega
          go_enter Try.func3, Try.ntmps3
          go_wp2_with fail
          refine (Powers_any p g s _ ⟨by omega, by omega⟩).mono ?_
          rintro e w1 ⟨v, rfl, hcol⟩
          rw [HS.out] at hcol ⊢
          obtain ⟨a, cap, rfl⟩ := reads_len hcol.reads
          have hb := hcol.below
          go_wp2_with (first
            | (go_at_call 5; refine (refPrime_any _ _ (by omega)).mono ?_; rintro e w' ⟨rfl, rfl⟩; rw [HP.out])
            | (go_at_call 6; refine (refRoot_any _ _ _ HP.out ⟨by omega, by omega⟩).mono ?_; rintro e w' ⟨rfl, rfl⟩; rw [HR.out])
            | (go_at_call 7; refine (awake_any _).mono ?_; rintro e w5 ⟨rfl, hb5⟩))
          all_goals (go_ret; exact ⟨rfl, hb.trans (hb5.mono hb.size)⟩)
    · have hr' : rootB p g = false := by simpa using hr
      have hS : powersS p g s = ([], 2) := by unfold powersS; rw [hr']; simp
      have HP := Lib.hid hp
      have HR := Lib.hid hr'
      have HS := Lib.hid hS
      clear hp hr hr' hS
      go_enter Try.func3, Try.ntmps3
      go_wp2_with fail
      refine (Powers_any p g s _ ⟨by omega, by omega⟩).mono ?_
      rintro e w1 ⟨v, rfl, hcol⟩
      rw [HS.out] at hcol ⊢
      obtain ⟨a, cap, rfl⟩ := reads_len hcol.reads
      have hb := hcol.below
      go_wp2_with (first
        | (go_at_call 5; refine (refPrime_any _ _ (by omega)).mono ?_; rintro e w' ⟨rfl, rfl⟩; rw [HP.out])
        | (go_at_call 6; refine (refRoot_any _ _ _ HP.out ⟨by omega, by omega⟩).mono ?_; rintro e w' ⟨rfl, rfl⟩; rw [HR.out])
        | (go_at_call 7; refine (awake_any _).mono ?_; rintro e w5 ⟨rfl, hb5⟩))
      all_goals (go_ret; exact ⟨rfl, hb.trans (hb5.mono hb.size)⟩)
  · have hp' : primeB p = false := by simpa using hp
    have hS : powersS p g s = ([], 2) := by
      unfold powersS
      have : rootB p g = false := by unfold rootB; rw [hp']; simp
      rw [this]; simp
    have HP := Lib.hid hp'
    have HS := Lib.hid hS
    clear hp hp' hS
    go_enter Try.func3, Try.ntmps3
    go_wp2_with fail
    refine (Powers_any p g s _ ⟨by omega, by omega⟩).mono ?_
    rintro e w1 ⟨v, rfl, hcol⟩
    rw [HS.out] at hcol ⊢
    obtain ⟨a, cap, rfl⟩ := reads_len hcol.reads
    have hb := hcol.below
    go_wp2_with (first
      | (go_at_call 5; refine (refPrime_any _ _ (by omega)).mono ?_; rintro e w' ⟨rfl, rfl⟩; rw [HP.out])
      | (go_at_call 7; refine (awake_any _).mono ?_; rintro e w5 ⟨rfl, hb5⟩))
    all_goals (go_ret; exact ⟨rfl, hb.trans (hb5.mono hb.size)⟩)
end Go.Proofs.Ytohliebnlpcodaa
