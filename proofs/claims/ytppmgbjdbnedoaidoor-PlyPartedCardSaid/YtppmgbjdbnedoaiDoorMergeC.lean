import Derived.Test.YtppmgbjdbnedoaiDoorMergeA
import Derived.Test.YtppmgbjdbnedoaiDoorMergeB
/- PlyParted. -/
set_option linter.unusedVariables false
set_option linter.unusedSimpArgs false
namespace Go.Proofs.YtppmgbjdbnedoaiDoor
open Go.RowKit

theorem set_mod1 {n : Nat} (h1 : 1 ≤ n) (hn : n ≤ 6) (a : Int) : ∃ N S : Nat, 2 ^ n = N ∧ ((2 : Int) ^ n) = (N : Int) ∧ 2 ≤ N ∧ N ≤ 64 ∧ S < N - 1 ∧ 0 ≤ S ∧ S + 1 < N ∧ Hid (∀ w, Calls Tryd.prog 5 #[.int .i64 a, .int .i64 ((N : Int) - 1)] w fun e w' => e = .returned (.int .i64 S) ∧ w = w') := by
  have h64 : 2 ^ n ≤ 64 := Nat.pow_le_pow_right (n := 2) (by omega) hn
  have h2 : 2 ^ 1 ≤ 2 ^ n := Nat.pow_le_pow_right (n := 2) (by omega) h1
  obtain ⟨A, h3, h4⟩ := num_mod (N := 2 ^ n - 1) (by omega) (by omega) a
  rw [show (((2 ^ n - 1 : Nat)) : Int) = ((2 ^ n : Nat) : Int) - 1 by omega] at h4
  exact ⟨2 ^ n, A, rfl, by push_cast; rfl, by omega, h64, h3, by omega, by omega, h4⟩
theorem wide_no1 {S k : Nat} (a : Nat) (h : S.testBit k = false) : wideTo S a (k + 1) = wideTo S a k := gather_skip (P := fun i => S.testBit i && a.testBit (rankTo S i)) (by simp [h])
theorem wide_no2 {S a k : Nat} (h : a.testBit (rankTo S k) = false) : wideTo S a (k + 1) = wideTo S a k := gather_skip (P := fun i => S.testBit i && a.testBit (rankTo S i)) (by simp [h])
theorem wide_yes {S a k : Nat} (h : S.testBit k = true) (h2 : a.testBit (rankTo S k) = true) : wideTo S a k + 2 ^ k = wideTo S a (k + 1) := gather_add (P := fun i => S.testBit i && a.testBit (rankTo S i)) (by simp [h, h2])
theorem wide_lt (S a : Nat) {k : Nat} (hk : k ≤ 6) : wideTo S a k < 64 := Nat.lt_of_lt_of_le (gather_lt _ _) (Nat.pow_le_pow_right (n := 2) (by omega) hk)
theorem narrow_lt (S b : Nat) {k : Nat} (hk : k ≤ 6) : narrow S b k < 64 := Nat.lt_of_lt_of_le (gather_lt _ _) (Nat.pow_le_pow_right (n := 2) (by omega) hk)
theorem narrow_yes {S b k : Nat} (hs : S < 64) (hk : k < 6) (h : S.testBit k = true) (h2 : b.testBit k = true) : narrow S b (rankTo S k) + 2 ^ rankTo S k = narrow S b (rankTo S (k + 1)) := by
  rw [rank_yes h]
  exact gather_add (P := fun q => b.testBit (pt S q)) (by show b.testBit (pt S (rankTo S k)) = true; rw [(rank_pt hs hk h).1]; exact h2)
theorem narrow_no {S b k : Nat} (hs : S < 64) (hk : k < 6) (h : S.testBit k = true) (h2 : b.testBit k = false) : narrow S b (rankTo S (k + 1)) = narrow S b (rankTo S k) := by
  rw [rank_yes h]
  exact gather_skip (P := fun q => b.testBit (pt S q)) (by show b.testBit (pt S (rankTo S k)) = false; rw [(rank_pt hs hk h).1]; exact h2)
set_option maxRecDepth 100000 in
set_option maxHeartbeats 3200000 in
theorem PlyParted_walk (a0 : Int) (sl : Value) (xs : List Int) (a2 a3 : Int) (w : World) (h0 : -9223372036854775808 ≤ a0 ∧ a0 ≤ 9223372036854775807) (hr : Reads w sl xs) (hx : ∀ x ∈ xs, -9223372036854775808 ≤ x ∧ x ≤ 9223372036854775807) (h2 : -9223372036854775808 ≤ a2 ∧ a2 ≤ 9223372036854775807) (h3 : -9223372036854775808 ≤ a3 ∧ a3 ≤ 9223372036854775807) (hT : Tab w) :
    Calls Tryd.prog 3 #[.int .i64 a0, sl, .int .i64 a2, .int .i64 a3] w fun e w' => e = .returned (.bool true) ∧ Below w.heap.size w w' := by
  clear hx h0 h2 h3
  obtain ⟨ra, rcap, rfl, _, _, _⟩ := hr.open
  go_enter Tryd.func3, Tryd.ntmps3
  have hb := Below.refl w.heap.size w
  go_wp2_with fail
  refine (tame_any a0 _ xs 6 false _ hr (by omega) (by omega)).mono ?_
  rintro e w1 ⟨l, cs, rfl, hcol, hc, hs, _, _⟩
  replace hb := below_to hb hb.size hcol.below
  have rc := hcol.reads
  clear hcol hr
  obtain ⟨la, lc, rfl, _, _, _⟩ := rc.open
  rw [ofNats_len] at rc ⊢
  have hl1 := hc.1
  have hl6 := hc.2.1
  obtain ⟨N, S, hN, hshN, hN1, hN64, hNS, hS1, hS2, HMS⟩ := set_mod1 hl1 hl6 a2
  have hs6 : S + 1 < 64 := by omega
  have HC := Lib.hid hc
  have HS := Lib.hid hs
  have HSL : Hid (S + 1 < 2 ^ cs.length) := Lib.hid (by rw [hN]; exact hS2)
  have HS0 : Hid (S + 1 ≠ 0) := Lib.hid (by omega)
  have HS64 : Hid (S + 1 < 64) := Lib.hid hs6
  obtain ⟨T, hT1⟩ : ∃ T, T = S + 1 := ⟨_, rfl⟩
  rw [← hT1] at HSL HS0 HS64
  have HTE : Hid ((1 : Int) + (S : Int) = (T : Int)) := Lib.hid (by omega)
  have HAL : Hid ((N : Int) - 1 = ((allN cs.length : Nat) : Int)) := Lib.hid (by unfold allN; rw [hN]; omega)
  have hT64 : T < 64 := HS64.out
  have HAB : Hid (allN cs.length < 2 ^ cs.length) := Lib.hid (all_lt _)
  have HA0 : Hid (allN cs.length ≠ 0) := Lib.hid (by unfold allN; rw [hN]; omega)
  have HPW := Lib.hid (part_whole hc)
  have HPL := Lib.hid (part_len cs T)
  have HPC := Lib.hid (part_codes (cs := cs) HS64.out HS0.out)
  have HPS := Lib.hid (part_space hc hs HSL.out)
  have HSP := Lib.hid (spL_nats HPC.out HPS.out)
  have HRA : Hid (rankTo T cs.length = (bitsOf T).length) := Lib.hid (rank_all hl6 HSL.out)
  have hL6 := bitsOf_len6 T
  have HPLC := Lib.hid (fun a => part_closure (a := a) hc hs HSL.out HS0.out)
  clear hN hT1 hc hs
  go_wp2_with fail
  refine (HMS.out _).mono ?_
  rintro e w1 ⟨rfl, rfl⟩
  go_wp2_with fail
  rw [HTE.out]
  refine (Part_yes _ cs T _ rc HC.out HS.out HSL.out HS0.out (hT.below hb)).mono ?_
  rintro e w2 ⟨vp, rfl, hcol⟩
  replace rc := rc.below hcol.below
  replace hb := below_to hb hb.size hcol.below
  have rp := hcol.reads
  clear hcol
  obtain ⟨vp_a, vp_c, rfl, _, _, _⟩ := rp.open
  rw [ofNats_len, HPL.out] at rp ⊢
  go_wp2_with fail
  rw [HAL.out]
  refine (Part_yes _ cs (allN cs.length) _ rc HC.out HS.out HAB.out HA0.out (hT.below hb)).mono ?_
  rintro e w3 ⟨vw, rfl, hcol⟩
  rw [HPW.out] at hcol
  replace rc := rc.below hcol.below
  replace rp := rp.below hcol.below
  replace hb := below_to hb hb.size hcol.below
  have rw0 := hcol.reads
  clear hcol
  obtain ⟨vw_a, vw_c, rfl, _, _, _⟩ := rw0.open
  rw [ofNats_len] at rw0 ⊢
  go_wp2_with fail
  refine (ints_same _ _ _ _ rw0 rc).mono ?_
  rintro e w4 ⟨rfl, m4, rfl⟩
  replace rc := rc.below (below_drewN _ m4)
  replace rp := rp.below (below_drewN _ m4)
  replace rw0 := rw0.below (below_drewN _ m4)
  replace hb := below_to hb hb.size (below_drewN _ m4)
  generalize hW4 : World.drewN _ m4 = W4 at *
  clear hW4
  go_wp2_with fail
  refine (refSpace_any _ _ _ rp).mono ?_
  rintro e w5 ⟨rfl, hbn⟩
  rw [HSP.out]
  replace rc := rc.below hbn
  replace rp := rp.below hbn
  replace rw0 := rw0.below hbn
  replace hb := below_to hb hb.size hbn
  clear hbn
  obtain ⟨K, A, hK, hshK, hK1, hK64, hA, HMA⟩ := set_mod hL6 a3
  have HAK : Hid (A < 2 ^ (partN cs T).length) := Lib.hid (by rw [HPL.out, hK]; exact hA)
  clear hK
  go_wp2_with fail
  refine (HMA.out _).mono ?_
  rintro e w6 ⟨rfl, rfl⟩
  go_wp2_with fail
  go_loop [15, 16, 17] (fun x y i => ∃ k : Nat, k ≤ cs.length ∧ i = .int .i64 k ∧ x = .int .i64 (wideTo T A k : Nat) ∧ y = .int .i64 (rankTo T k : Nat)) (fun _ _ i => cs.length - (intOf i).toNat)
  case atStart => exact ⟨0, by omega, rfl, rfl, rfl⟩
  case round =>
    obtain ⟨k, hk, rfl, rfl, rfl⟩ := hrel
    by_cases hlt : k < cs.length
    · have k0 : (0 : Int) ≤ (k : Int) := by omega
      have k1 : (k : Int) < (cs.length : Int) := by omega
      have hrk := rank_le T k
      have hb1 := refhas_bit T k
      have hb2 := refhas_bit A (rankTo T k)
      rcases hbit : T.testBit k with _ | _
      · rw [hbit] at hb1
        have HR := Lib.hid (rank_no hbit)
        have HW := Lib.hid (wide_no1 A hbit)
        clear hbit hb2
        go_wp2_with fail
        go_round
        case rel => exact ⟨k + 1, by omega, by go_num, by rw [HW.out], by rw [HR.out]⟩
        case measure => simp [intOf]; omega
      · rw [hbit] at hb1
        have HR := Lib.hid (rank_yes hbit)
        rcases hbit2 : A.testBit (rankTo T k) with _ | _
        · rw [hbit2] at hb2
          have HW := Lib.hid (wide_no2 hbit2)
          clear hbit hbit2
          go_wp2_with fail
          go_round
          case rel => exact ⟨k + 1, by omega, by go_num, by rw [HW.out], by rw [HR.out]; go_num⟩
          case measure => simp [intOf]; omega
        · rw [hbit2] at hb2
          obtain ⟨Q, hQ⟩ : ∃ Q, 2 ^ k = Q := ⟨_, rfl⟩
          have hshQ : ((2 : Int) ^ k) = (Q : Int) := by rw [← hQ]; push_cast; rfl
          have hQ64 : Q ≤ 64 := by rw [← hQ]; exact Nat.pow_le_pow_right (n := 2) (by omega) (show k ≤ 6 by omega)
          rw [hshQ] at hb1
          have hwl := wide_lt T A (show k ≤ 6 by omega)
          have hwy := wide_yes hbit hbit2
          rw [hQ] at hwy
          have HW := Lib.hid hwy
          clear hbit hbit2 hQ hwy
          generalize wideTo T A k = G at *
          go_wp2_with fail
          go_round
          case rel => exact ⟨k + 1, by omega, by go_num, by rw [← HW.out]; go_num, by rw [HR.out]; go_num⟩
          case measure => simp [intOf]; omega
    · have hkn : k = cs.length := by omega
      have HWL : Hid (wideTo T A k < 2 ^ cs.length) := Lib.hid (by rw [hkn]; exact gather_lt _ _)
      have HRK : Hid (rankTo T k = (bitsOf T).length) := Lib.hid (by rw [hkn]; exact HRA.out)
      have HWK : Hid (closureN (partN cs T) A = narrow T (closureN cs (wideTo T A k)) (bitsOf T).length) := Lib.hid (by rw [hkn]; exact HPLC.out A)
      rw [HRK.out]
      generalize wideTo T A k = WD at *
      clear hkn
      go_wp2_with fail
      refine (Closure_yes _ (partN cs T) A _ rp HPC.out HPS.out HAK.out (hT.below hb)).mono ?_
      rintro e w7 ⟨rfl, hbn⟩
      rw [HWK.out]
      replace rc := rc.below hbn
      replace rp := rp.below hbn
      replace rw0 := rw0.below hbn
      replace hb := below_to hb hb.size hbn
      clear hbn
      go_wp2_with fail
      refine (Closure_yes _ cs WD _ rc HC.out HS.out HWL.out (hT.below hb)).mono ?_
      rintro e w8 ⟨rfl, hbn⟩
      replace rc := rc.below hbn
      replace rp := rp.below hbn
      replace rw0 := rw0.below hbn
      replace hb := below_to hb hb.size hbn
      clear hbn
      have HB64 : Hid (closureN cs WD < 64) := Lib.hid (Nat.lt_of_lt_of_le (closure_lt _ _) (Nat.pow_le_pow_right (n := 2) (by omega) hl6))
      generalize closureN cs WD = B at *
      have hb64 := HB64.out
      clear HWK HPLC
      go_wp2_with fail
      go_loop [22, 23, 24] (fun x y i => ∃ k : Nat, k ≤ cs.length ∧ i = .int .i64 k ∧ x = .int .i64 (narrow T B (rankTo T k) : Nat) ∧ y = .int .i64 (rankTo T k : Nat)) (fun _ _ i => cs.length - (intOf i).toNat)
      case atStart => exact ⟨0, by omega, rfl, rfl, rfl⟩
      case round =>
        clear hk hlt HWL HRK
        obtain ⟨k, hk, rfl, rfl, rfl⟩ := hrel
        by_cases hlt : k < cs.length
        · have k0 : (0 : Int) ≤ (k : Int) := by omega
          have k1 : (k : Int) < (cs.length : Int) := by omega
          have hrk := rank_le T k
          have hb1 := refhas_bit T k
          have hb2 := refhas_bit B k
          rcases hbit : T.testBit k with _ | _
          · rw [hbit] at hb1
            have HR := Lib.hid (rank_no hbit)
            clear hbit hb2
            go_wp2_with fail
            go_round
            case rel => exact ⟨k + 1, by omega, by go_num, by rw [HR.out], by rw [HR.out]⟩
            case measure => simp [intOf]; omega
          · rw [hbit] at hb1
            have HR := Lib.hid (rank_yes hbit)
            rcases hbit2 : B.testBit k with _ | _
            · rw [hbit2] at hb2
              have HW := Lib.hid (narrow_no hT64 (show k < 6 by omega) hbit hbit2)
              clear hbit hbit2
              go_wp2_with fail
              go_round
              case rel => exact ⟨k + 1, by omega, by go_num, by rw [HW.out], by rw [HR.out]; go_num⟩
              case measure => simp [intOf]; omega
            · rw [hbit2] at hb2
              obtain ⟨Q, hQ⟩ : ∃ Q, 2 ^ rankTo T k = Q := ⟨_, rfl⟩
              have hshQ : ((2 : Int) ^ rankTo T k) = (Q : Int) := by rw [← hQ]; push_cast; rfl
              have hQ64 : Q ≤ 64 := by rw [← hQ]; exact Nat.pow_le_pow_right (n := 2) (by omega) (show rankTo T k ≤ 6 by omega)
              have hwl := narrow_lt T B (show rankTo T k ≤ 6 by omega)
              have hwy := narrow_yes hT64 (show k < 6 by omega) hbit hbit2
              rw [hQ] at hwy
              have HW := Lib.hid hwy
              clear hbit hbit2 hQ hwy
              generalize hG : narrow T B (rankTo T k) = G at *
              go_wp2_with fail
              go_round
              case rel => exact ⟨k + 1, by omega, by go_num, by rw [← HW.out]; go_num, by rw [HR.out]; go_num⟩
              case measure => simp [intOf]; omega
        · have hkn : k = cs.length := by omega
          have HRK : Hid (rankTo T k = (bitsOf T).length) := Lib.hid (by rw [hkn]; exact HRA.out)
          rw [HRK.out]
          clear hkn
          go_wp2_with fail
          refine (awake_any _ (hT.below hb)).mono ?_
          rintro e w9 ⟨rfl, hbn⟩
          replace rc := rc.below hbn
          replace rp := rp.below hbn
          replace rw0 := rw0.below hbn
          replace hb := below_to hb hb.size hbn
          clear hbn
          go_wp2_with fail
          go_ret
          exact ⟨rfl, hb⟩
end Go.Proofs.YtppmgbjdbnedoaiDoor
