/- StudShifted. -/
import Derived.Test.YtpccekbbijfgmaaPrime
import Derived.Test.YtpccekbbijfgmaaAwake
set_option linter.unusedVariables false
set_option linter.unusedSimpArgs false
namespace Go.Proofs.Ytpccekbbijfgmaa
open Go.RowKit

theorem gi_powersL {p g s : Int} {n i : Nat} (h : i < n) : gi (powersL p g s n) i = pw p g (((i : Int) + s) % (p - 1)).toNat - 1 := by
  rw [gi_lt (by rw [powersL_len]; exact h)]; simp [powersL]
def halvesB : Bool := [3, 5, 7, 11, 13, 17].all fun (p : Int) => (List.range 17).all fun g =>
  !(rootB p g) || (List.range (p.toNat - 1)).all fun i => pw p g i + pw p g (((i : Int) + (p - 1) / 2) % (p - 1)).toNat == p
theorem halvesB_true : halvesB = true := by kernel_rfl
theorem halves {p g : Int} {i : Nat} (h1 : rootB p g = true) (hip : i < p.toNat - 1) : pw p g i + pw p g (((i : Int) + (p - 1) / 2) % (p - 1)).toNat = p := by
  obtain ⟨hp, hg1, hg2⟩ := rootB_prime h1
  obtain ⟨h3, h17⟩ := primeB_rng hp
  have hm : p ∈ [(3 : Int), 5, 7, 11, 13, 17] := by
    rcases primeB_cases hp with h | h | h | h | h | h <;> simp [h]
  have H := List.all_eq_true.1 halvesB_true p hm
  have H2 := List.all_eq_true.1 H g.toNat (by simp; omega)
  rw [Int.toNat_of_nonneg (by omega : 0 ≤ g), h1] at H2
  simp only [Bool.not_true, Bool.false_or] at H2
  have H3 := List.all_eq_true.1 H2 i (by simp; omega)
  exact eq_of_beq H3
theorem powersS_ok {p g s : Int} (h1 : rootB p g = true) (h2 : 0 ≤ s) (h3 : s ≤ p - 2) : powersS p g s = (powersL p g s (p.toNat - 1), 0) := by
  unfold powersS; rw [h1, withinB_iff.2 ⟨h2, h3⟩]; rfl

set_option maxRecDepth 100000 in
set_option maxHeartbeats 3200000 in
theorem StudShifted_walk (x y z : Int) (w : World) (wp : -9223372036854775808 ≤ x ∧ x ≤ 9223372036854775807) (wg : -9223372036854775808 ≤ y ∧ y ≤ 9223372036854775807) (ws : -9223372036854775808 ≤ z ∧ z ≤ 9223372036854775807) :
    Calls Try.prog 3 #[.int .i64 x, .int .i64 y, .int .i64 z] w fun e w' => e = .returned (.bool true) ∧ Below w.heap.size w w' := by
  clear wp wg ws
  go_enter Try.func3, Try.ntmps3
  go_wp2_with fail
  refine (prime_any _ _ _ _).mono ?_
  rintro e w1 ⟨p, g, h, rfl, hp, hr, _, hb1⟩
  obtain ⟨h3, h17⟩ := primeB_rng hp
  obtain ⟨s, hs⟩ : ∃ s : Nat, modN z (p - 1) = s := ⟨(modN z (p - 1)).toNat, by have := modN_rng z (n := p - 1) (by omega); omega⟩
  have hs2 : (s : Int) ≤ p - 2 := by have := modN_rng z (n := p - 1) (by omega); omega
  have HP := Lib.hid hp
  have HR := Lib.hid hr
  have HS := Lib.hid hs
  clear hp hr hs
  go_wp2_with (go_at_call 5; refine (mod_any _ _ _ (by omega) (by omega)).mono ?_; rintro e w' ⟨rfl, rfl⟩; rw [HS.out])
  refine (Powers_any p g 0 _ ⟨by omega, by omega⟩).mono ?_
  rintro e w2 ⟨v, rfl, hcol⟩
  rw [powersS_ok HR.out (by omega) (by omega)] at hcol ⊢
  go_wp2_with fail
  refine (Powers_any p g s _ ⟨by omega, by omega⟩).mono ?_
  rintro e w3 ⟨u, rfl, hcol2⟩
  rw [powersS_ok HR.out (by omega) (by omega)] at hcol2 ⊢
  have hr2 := hcol2.reads
  have hr1 := hcol.reads.below hcol2.below
  have hb := hb1.trans ((hcol.below.trans (hcol2.below.mono hcol.below.size)).mono hb1.size)
  obtain ⟨a, cap, rfl, _, _, hc1⟩ := hr1.open
  obtain ⟨b, cap2, rfl, _, _, hc2⟩ := hr2.open
  rw [powersL_len] at hc1 hc2
  simp only [powersL_len]
  clear hr1 hr2 hcol hcol2 hb1
  obtain ⟨n, hn⟩ : ∃ n, p.toNat - 1 = n := ⟨_, rfl⟩
  rw [hn] at hc1 hc2 ⊢
  have hlen : (n : Int) = p - 1 := by omega
  have hlb : ((n : Int) == p - 1) = true := by simp [hlen]
  have hlb2 : (!((n : Int) == p - 1)) = false := by simp [hlen]
  have hns : n ≤ 16 := by omega
  have HN := Lib.hid hn
  clear hn
  have HLEN := Lib.hid hlen
  clear hlen
  go_wp2_with fail
  go_loopw [12] (fun i wr => ∃ k m : Nat, (k : Int) ≤ p - 1 ∧ i = .int .i64 k ∧ wr = w3.drewN m) (fun i _ => (p - intOf i).toNat)
  case atStart => exact ⟨0, 0, by omega, rfl, rfl⟩
  case round =>
    obtain ⟨k, m, hk, rfl, rfl⟩ := hrel
    by_cases hlt : (k : Int) < p - 1
    · obtain ⟨q1, hq1⟩ : ∃ q : Nat, ((k : Int) + s) % (p - 1) = q := ⟨(((k : Int) + s) % (p - 1)).toNat, by have := Int.emod_nonneg ((k : Int) + s) (show p - 1 ≠ 0 by omega); omega⟩
      obtain ⟨q2, hq2⟩ : ∃ q : Nat, ((k : Int) + (p - 1) / 2) % (p - 1) = q := ⟨(((k : Int) + (p - 1) / 2) % (p - 1)).toNat, by have := Int.emod_nonneg ((k : Int) + (p - 1) / 2) (show p - 1 ≠ 0 by omega); omega⟩
      have hq1b : (q1 : Int) < p - 1 := by have := Int.emod_lt_of_pos ((k : Int) + s) (show 0 < p - 1 by omega); omega
      have hq2b : (q2 : Int) < p - 1 := by have := Int.emod_lt_of_pos ((k : Int) + (p - 1) / 2) (show 0 < p - 1 by omega); omega
      have e1 : ((k : Int) + s).tmod (p - 1) = q1 := by rw [Int.tmod_eq_emod_of_nonneg (by omega)]; exact hq1
      have e2 : (p - 1).tdiv 2 = (p - 1) / 2 := Int.tdiv_eq_ediv_of_nonneg (by omega)
      have e3 : ((k : Int) + (p - 1) / 2).tmod (p - 1) = q2 := by rw [Int.tmod_eq_emod_of_nonneg (by omega)]; exact hq2
      obtain ⟨ba, oa, rfl, hba, hca⟩ := hc1 k (by have := HLEN.out; omega)
      obtain ⟨_, _, he, _, hca1⟩ := hc1 q1 (by have := HLEN.out; omega)
      cases he
      obtain ⟨_, _, he, _, hca2⟩ := hc1 q2 (by have := HLEN.out; omega)
      cases he
      obtain ⟨bb, ob, rfl, hbb, hcb⟩ := hc2 k (by have := HLEN.out; omega)
      have t1 : gi (powersL p g s n) k = gi (powersL p g 0 n) q1 := by
        rw [gi_powersL (by have := HLEN.out; omega), gi_powersL (by have := HLEN.out; omega), hq1, Int.add_zero, Int.emod_eq_of_lt (by omega) hq1b]
      have ga : gi (powersL p g 0 n) k = pw p g k - 1 := by rw [gi_powersL (by have := HLEN.out; omega), Int.add_zero, Int.emod_eq_of_lt (by omega) (by omega)]; simp
      have gb : gi (powersL p g 0 n) q2 = pw p g q2 - 1 := by rw [gi_powersL (by have := HLEN.out; omega), Int.add_zero, Int.emod_eq_of_lt (by omega) (by omega)]; simp
      have hh := halves HR.out (i := k) (by omega)
      rw [hq2] at hh
      simp only [Int.toNat_natCast] at hh
      have hA := pw_rng (p := p) (g := g) (by omega) k
      have hB := pw_rng (p := p) (g := g) (by omega) q2
      have t2 : gi (powersL p g 0 n) k + gi (powersL p g 0 n) q2 = p - 2 := by rw [ga, gb]; omega
      have r1 : -1 ≤ gi (powersL p g 0 n) k ∧ gi (powersL p g 0 n) k ≤ 17 := by rw [ga]; omega
      have r2 : -1 ≤ gi (powersL p g 0 n) q2 ∧ gi (powersL p g 0 n) q2 ≤ 17 := by rw [gb]; omega
      obtain ⟨r11, r12⟩ := r1
      obtain ⟨r21, r22⟩ := r2
      have hv1 : 0 ≤ (p - 1) / 2 := by omega
      have hv2 : (p - 1) / 2 ≤ 8 := by omega
      have x1 : (k : Int) < n := by have := HLEN.out; omega
      have x2 : (q1 : Int) < n := by have := HLEN.out; omega
      have x3 : (q2 : Int) < n := by have := HLEN.out; omega
      have y1 : (0 : Int) ≤ (k : Int) := by omega
      have y2 : (0 : Int) ≤ (q1 : Int) := by omega
      have y3 : (0 : Int) ≤ (q2 : Int) := by omega
      have z0 : ¬ p - 1 = 0 := by omega
      have w1' : IntKind.i64.wrap (p - 1) = p - 1 := IntWalk.i64_in _ (by omega)
      have w2' : IntKind.i64.wrap (p - 2) = p - 2 := IntWalk.i64_in _ (by omega)
      have w3' : IntKind.i64.wrap ((k : Int) + s) = (k : Int) + s := IntWalk.i64_in _ (by omega)
      have w4' : IntKind.i64.wrap ((k : Int) + (p - 1) / 2) = (k : Int) + (p - 1) / 2 := IntWalk.i64_in _ (by omega)
      have w5' : IntKind.i64.wrap ((p - 1) / 2) = (p - 1) / 2 := IntWalk.i64_in _ (by omega)
      have w6' : IntKind.i64.wrap (gi (powersL p g 0 n) k + gi (powersL p g 0 n) q2) = gi (powersL p g 0 n) k + gi (powersL p g 0 n) q2 := IntWalk.i64_in _ (by omega)
      have w7' : IntKind.i64.wrap (q1 : Int) = q1 := IntWalk.i64_in _ (by omega)
      have w8' : IntKind.i64.wrap (q2 : Int) = q2 := IntWalk.i64_in _ (by omega)
      clear hc1 hc2 hh ga gb hA hB hq1 hq2
      go_wp2_with fail
      go_quiet (fail)
      go_wp2_with fail
      go_roundw
      case rel => exact ⟨k + 1, _, by omega, by go_num, rfl⟩
      case measure => simp [intOf]; omega
    · go_wp2_with (go_at_call 7; refine (awake_any _).mono ?_; rintro e w5 ⟨rfl, hb5⟩)
      go_ret
      have hbm := hb.trans ((below_drewN w3 m).mono hb.size)
      exact ⟨rfl, hbm.trans (hb5.mono hbm.size)⟩
end Go.Proofs.Ytpccekbbijfgmaa
