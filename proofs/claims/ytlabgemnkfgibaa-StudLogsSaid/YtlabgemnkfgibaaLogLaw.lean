/- StudLogs. -/
import Derived.Test.YtlabgemnkfgibaaRefP
import Derived.Test.YtlabgemnkfgibaaAwake
import Derived.Test.YtlabgemnkfgibaaLens
set_option linter.unusedVariables false
set_option linter.unusedSimpArgs false
namespace Go.Proofs.Ytlabgemnkfgibaa
open Go.RowKit

/-- the fitting powers of 'h' below 'm', each less one -/
def matchL (p g h : Int) (i m : Nat) : List Int := ((List.range m).map fun (j : Nat) => (j : Int)).filter fun j => decide ((pw p g i + pw p h (j.toNat + 1)) % p = 1)
theorem matchL_succ (p g h : Int) (i m : Nat) : matchL p g h i (m + 1) = matchL p g h i m ++ if (pw p g i + pw p h (m + 1)) % p = 1 then [(m : Int)] else [] := by
  unfold matchL
  rw [List.range_succ, List.map_append, List.filter_append]
  congr 1
  simp [List.filter_cons]
theorem matchL_len (p g h : Int) (i m : Nat) : (matchL p g h i m).length ≤ m := by
  unfold matchL; exact Nat.le_trans (List.length_filter_le _ _) (by simp)

def matchesB : Bool := [3, 5, 7, 11, 13, 17].all fun (p : Int) => (List.range 17).all fun g => (List.range 17).all fun h =>
  !(rootB p g) || !(rootB p h) || (List.range (p.toNat - 2)).all fun i => matchL p g h (i + 1) (p.toNat - 2) == [logAt p g h (i + 1)]
theorem matchesB_true : matchesB = true := by kernel_rfl
theorem matchL_all {p g h : Int} {i : Nat} (h1 : rootB p g = true) (h2 : rootB p h = true) (hi : 1 ≤ i) (hip : i ≤ p.toNat - 2) : matchL p g h i (p.toNat - 2) = [logAt p g h i] := by
  obtain ⟨hp, hg1, hg2⟩ := rootB_prime h1
  obtain ⟨_, hh1, hh2⟩ := rootB_prime h2
  obtain ⟨h3, h17⟩ := primeB_rng hp
  have hm : p ∈ [(3 : Int), 5, 7, 11, 13, 17] := by
    rcases primeB_cases hp with h | h | h | h | h | h <;> simp [h]
  have H := List.all_eq_true.1 matchesB_true p hm
  have H2 := List.all_eq_true.1 (List.all_eq_true.1 H g.toNat (by simp; omega)) h.toNat (by simp; omega)
  rw [Int.toNat_of_nonneg (by omega : 0 ≤ g), Int.toNat_of_nonneg (by omega : 0 ≤ h), h1, h2] at H2
  simp only [Bool.not_true, Bool.false_or] at H2
  have H3 := List.all_eq_true.1 H2 (i - 1) (by simp; omega)
  rw [show i - 1 + 1 = i by omega] at H3
  exact eq_of_beq H3

set_option maxRecDepth 100000 in
set_option maxHeartbeats 1600000 in
theorem refLogs_any (p g h : Int) (w : World) (h1 : rootB p g = true) (h2 : rootB p h = true) :
    Calls Try.prog 12 #[.int .i64 p, .int .i64 g, .int .i64 h] w fun e w' => ∃ v, e = .returned v ∧ Col w w' v (logsL p g h (p.toNat - 2)) := by
  obtain ⟨hp, hg1, hg2⟩ := rootB_prime h1
  obtain ⟨_, hh1, hh2⟩ := rootB_prime h2
  obtain ⟨h3, h17⟩ := primeB_rng hp
  have H1 := Lib.hid h1
  have H2 := Lib.hid h2
  clear hp h1 h2
  go_enter Try.func12, Try.ntmps12
  go_wp2_with fail
  go_loopw [7, 8] (fun v i wr => ∃ k : Nat, (k : Int) ≤ p - 2 ∧ i = .int .i64 ((k : Int) + 1) ∧ Col w wr v (logsL p g h k)) (fun _ i _ => (p - intOf i).toNat)
  case atStart => exact ⟨0, by omega, rfl, Col.nil _⟩
  case round =>
    obtain ⟨k, hk, rfl, hcol⟩ := hrel
    by_cases hlt2 : (k : Int) < p - 2
    · go_wp2_with fail
      have hd : decide ((k : Int) + 1 ≤ p - 2) = true := decide_eq_true (by omega)
      rw [hd]
      go_loopw [7, 9] (fun v j wr => ∃ m : Nat, (m : Int) ≤ p - 2 ∧ j = .int .i64 ((m : Int) + 1) ∧ Col w wr v (logsL p g h k ++ matchL p g h (k + 1) m)) (fun _ j _ => (p - intOf j).toNat)
      case atStart => exact ⟨0, by omega, rfl, by simpa [matchL] using hcol⟩
      case round =>
        obtain ⟨m, hm, rfl, hcol⟩ := hrel
        by_cases hlt3 : (m : Int) < p - 2
        · have hpr := pw_rng (p := p) (g := g) (by omega) (k + 1)
          obtain ⟨hp1, hp2⟩ := hpr
          have hpr2 := pw_rng (p := p) (g := h) (by omega) (m + 1)
          obtain ⟨hp3, hp4⟩ := hpr2
          have e4 : (pw p g (k + 1) + pw p h (m + 1)).tmod p = (pw p g (k + 1) + pw p h (m + 1)) % p := Int.tmod_eq_emod_of_nonneg (by omega)
          have E1 : ((k : Int) + 1).toNat = k + 1 := by omega
          have E2 : ((m : Int) + 1).toNat = m + 1 := by omega
          have hL := logsL_len p g h k
          have hM := matchL_len p g h (k + 1) m
          have HL : Hid ((logsL p g h k ++ matchL p g h (k + 1) m).length ≤ 1000) := Lib.hid (by rw [List.length_append, hL]; omega)
          clear hL hM
          by_cases he : (pw p g (k + 1) + pw p h (m + 1)) % p = 1
          · have he' : ((pw p g (k + 1) + pw p h (m + 1)) % p == 1) = true := by simpa using he
            have HE := Lib.hid he
            clear he
            go_wp2_with (first
              | (go_at_call 20; refine (power_to _ _ _ _ ⟨by omega, by omega⟩ (by omega) h17 (by omega) (by omega)).mono ?_; rintro e w' ⟨rfl, rfl⟩; (first | rw [E1] | rw [E2]))
              | (at_builtin; refine append_int rfl _ _ rfl hcol rfl _ rfl (Nat.le_trans HL.out (by omega)) ?_; intro v' w' hcol' hne))
            go_roundw
            case rel => exact ⟨m + 1, by omega, by go_num, by rw [matchL_succ, if_pos HE.out, ← List.append_assoc]; simpa using hcol'⟩
            case measure => simp [intOf]; omega
          · have he' : ((pw p g (k + 1) + pw p h (m + 1)) % p == 1) = false := by simpa using he
            have HE := Lib.hid he
            clear he
            go_wp2_with (first
              | (go_at_call 20; refine (power_to _ _ _ _ ⟨by omega, by omega⟩ (by omega) h17 (by omega) (by omega)).mono ?_; rintro e w' ⟨rfl, rfl⟩; (first | rw [E1] | rw [E2])))
            go_roundw
            case rel => exact ⟨m + 1, by omega, by go_num, by rw [matchL_succ, if_neg HE.out]; simpa using hcol⟩
            case measure => simp [intOf]; omega
        · have hmp : m = p.toNat - 2 := by omega
          have HM := Lib.hid hmp
          clear hmp
          go_wp2_with fail
          go_roundw
          case rel => exact ⟨k + 1, by omega, by go_num, by rw [logsL_succ, ← matchL_all H1.out H2.out (i := k + 1) (by omega) (by omega), ← HM.out]; exact hcol⟩
          case measure => simp [intOf]; omega
    · have hkp : p.toNat - 2 = k := by omega
      have HK := Lib.hid hkp
      clear hkp
      go_wp2_with fail
      go_ret
      exact ⟨_, rfl, by rw [HK.out]; exact hcol⟩

theorem rootB_noprime {p g : Int} (h : primeB p = false) : rootB p g = false := by unfold rootB; rw [h]; simp

set_option maxRecDepth 100000 in
set_option maxHeartbeats 1600000 in
theorem StudLogs_walk (p g h : Int) (w : World) (wp : -9223372036854775808 ≤ p ∧ p ≤ 9223372036854775807) (wg : -9223372036854775808 ≤ g ∧ g ≤ 9223372036854775807) (wh : -9223372036854775808 ≤ h ∧ h ≤ 9223372036854775807) :
    Calls Try.prog 4 #[.int .i64 p, .int .i64 g, .int .i64 h] w fun e w' => e = .returned (.bool true) ∧ Below w.heap.size w w' := by
  obtain ⟨wp1, wp2⟩ := wp
  obtain ⟨wg1, wg2⟩ := wg
  obtain ⟨wh1, wh2⟩ := wh
  by_cases hp : primeB p = true
  · obtain ⟨h3, h17⟩ := primeB_rng hp
    by_cases hr : rootB p g = true
    · by_cases hs : rootB p h = true
      · have hS : logsS p g h = (logsL p g h (p.toNat - 2), 0) := by unfold logsS; rw [hr, hs]; rfl
        have HP := Lib.hid hp
        have HR := Lib.hid hr
        have HQ := Lib.hid hs
        have HS := Lib.hid hS
        clear hp hr hS hs
        go_enter Try.func4, Try.ntmps4
        go_wp2_with fail
        refine (Logs_any p g h _ ⟨by omega, by omega⟩).mono ?_
        rintro e w1 ⟨v, rfl, hcol⟩
        rw [HS.out] at hcol ⊢
        obtain ⟨a, cap, rfl⟩ := reads_len hcol.reads
        go_wp2_with (first
          | (go_at_call 6; refine (refPrime_any _ _ (by omega)).mono ?_; rintro e w' ⟨rfl, rfl⟩; rw [HP.out])
          | (go_at_call 11; refine (refRoot_any _ _ _ HP.out ⟨by omega, by omega⟩).mono ?_; rintro e w' ⟨rfl, rfl⟩; (first | rw [HR.out] | rw [HQ.out])))
        refine (refLogs_any p g h _ HR.out HQ.out).mono ?_
        rintro e w2 ⟨u, rfl, hcol2⟩
        go_wp2_with fail
        refine (ints_any _ _ _ _ _ (hcol.reads.below hcol2.below) hcol2.reads).mono ?_
        rintro e w3 ⟨rfl, m, rfl⟩
        rw [decide_eq_true rfl]
        have hb := (hcol.below.trans (hcol2.below.mono hcol.below.size)).trans ((below_drewN w2 m).mono (Nat.le_trans hcol.below.size hcol2.below.size))
        generalize hW : World.drewN w2 m = W at hb ⊢
        go_wp2_with (go_at_call 7; refine (awake_any _).mono ?_; rintro e w5 ⟨rfl, hb5⟩)
        go_ret
        exact ⟨rfl, hb.trans (hb5.mono hb.size)⟩
      · have hs' : rootB p h = false := by simpa using hs
        have hS : logsS p g h = ([], 2) := by unfold logsS; rw [hs']; simp
        have HP := Lib.hid hp
        have HR := Lib.hid hr
        have HQ := Lib.hid hs'
        have HS := Lib.hid hS
        clear hp hr hS hs hs'
        go_enter Try.func4, Try.ntmps4
        go_wp2_with fail
        refine (Logs_any p g h _ ⟨by omega, by omega⟩).mono ?_
        rintro e w1 ⟨v, rfl, hcol⟩
        rw [HS.out] at hcol ⊢
        obtain ⟨a, cap, rfl⟩ := reads_len hcol.reads
        have hb := hcol.below
        go_wp2_with (first
          | (go_at_call 6; refine (refPrime_any _ _ (by omega)).mono ?_; rintro e w' ⟨rfl, rfl⟩; rw [HP.out])
          | (go_at_call 11; refine (refRoot_any _ _ _ HP.out ⟨by omega, by omega⟩).mono ?_; rintro e w' ⟨rfl, rfl⟩; (first | rw [HR.out] | rw [HQ.out]))
          | (go_at_call 7; refine (awake_any _).mono ?_; rintro e w5 ⟨rfl, hb5⟩))
        all_goals (go_ret; exact ⟨rfl, hb.trans (hb5.mono hb.size)⟩)
    · have hr' : rootB p g = false := by simpa using hr
      have hS : logsS p g h = ([], 2) := by unfold logsS; rw [hr']; simp
      have HP := Lib.hid hp
      have HR := Lib.hid hr'
      have HS := Lib.hid hS
      clear hp hr hS hr'
      go_enter Try.func4, Try.ntmps4
      go_wp2_with fail
      refine (Logs_any p g h _ ⟨by omega, by omega⟩).mono ?_
      rintro e w1 ⟨v, rfl, hcol⟩
      rw [HS.out] at hcol ⊢
      obtain ⟨a, cap, rfl⟩ := reads_len hcol.reads
      have hb := hcol.below
      go_wp2_with (first
        | (go_at_call 6; refine (refPrime_any _ _ (by omega)).mono ?_; rintro e w' ⟨rfl, rfl⟩; rw [HP.out])
        | (go_at_call 11; refine (refRoot_any _ _ _ HP.out ⟨by omega, by omega⟩).mono ?_; rintro e w' ⟨rfl, rfl⟩; rw [HR.out])
        | (go_at_call 7; refine (awake_any _).mono ?_; rintro e w5 ⟨rfl, hb5⟩))
      all_goals (go_ret; exact ⟨rfl, hb.trans (hb5.mono hb.size)⟩)
  · have hp' : primeB p = false := by simpa using hp
    have hS : logsS p g h = ([], 2) := by unfold logsS; rw [rootB_noprime hp']; simp
    have HP := Lib.hid hp'
    have HS := Lib.hid hS
    clear hp hS hp'
    go_enter Try.func4, Try.ntmps4
    go_wp2_with fail
    refine (Logs_any p g h _ ⟨by omega, by omega⟩).mono ?_
    rintro e w1 ⟨v, rfl, hcol⟩
    rw [HS.out] at hcol ⊢
    obtain ⟨a, cap, rfl⟩ := reads_len hcol.reads
    have hb := hcol.below
    go_wp2_with (first
      | (go_at_call 6; refine (refPrime_any _ _ (by omega)).mono ?_; rintro e w' ⟨rfl, rfl⟩; rw [HP.out])
      | (go_at_call 7; refine (awake_any _).mono ?_; rintro e w5 ⟨rfl, hb5⟩))
    all_goals (go_ret; exact ⟨rfl, hb.trans (hb5.mono hb.size)⟩)
end Go.Proofs.Ytlabgemnkfgibaa
