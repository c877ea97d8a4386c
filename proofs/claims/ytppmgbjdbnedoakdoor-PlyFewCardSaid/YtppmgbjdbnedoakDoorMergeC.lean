import Derived.Test.YtppmgbjdbnedoakDoorMergeA
import Derived.Test.YtppmgbjdbnedoakDoorMergeB
/- PlyFew. -/
set_option linter.unusedVariables false
set_option linter.unusedSimpArgs false
namespace Go.Proofs.YtppmgbjdbnedoakDoor
open Go.RowKit

theorem times_le (l : List Nat) (x : Nat) : ∀ k, timesTo l x k ≤ k
  | 0 => Nat.le_refl _
  | k + 1 => by
    show timesTo l x k + (if cell l k = x then 1 else 0) ≤ k + 1
    have := times_le l x k
    split <;> omega
set_option maxRecDepth 100000 in
set_option maxHeartbeats 3200000 in
theorem PlyFew_walk (a0 : Int) (sl : Value) (xs : List Int) (a2 : Int) (w : World) (h0 : -9223372036854775808 ≤ a0 ∧ a0 ≤ 9223372036854775807) (hr : Reads w sl xs) (hx : ∀ x ∈ xs, -9223372036854775808 ≤ x ∧ x ≤ 9223372036854775807) (h2 : -9223372036854775808 ≤ a2 ∧ a2 ≤ 9223372036854775807) (hT : Tab w) :
    Calls Tryd.prog 3 #[.int .i64 a0, sl, .int .i64 a2] w fun e w' => e = .returned (.bool true) ∧ Below w.heap.size w w' := by
  clear hx h0 h2
  obtain ⟨ra, rcap, rfl, _, _, _⟩ := hr.open
  go_enter Tryd.func3, Tryd.ntmps3
  have hb := Below.refl w.heap.size w
  go_wp2_with fail
  refine (tame_any a0 _ xs 6 false _ hr (by omega) (by omega)).mono ?_
  rintro e w1 ⟨l, cs, rfl, hcol, hc, hs, _, _⟩
  replace hb := below_to hb hb.size hcol.below
  have rc := hcol.reads
  clear hcol hr
  obtain ⟨la, lc, rfl, _, _, _⟩ := rc.open
  rw [ofNats_len] at rc ⊢
  have hl1 := hc.1
  have hl6 := hc.2.1
  obtain ⟨N, A, hN, hshN, hN1, hN64, hA2, HMA⟩ := set_mod hl6 a2
  have HA : Hid (A < 2 ^ cs.length) := Lib.hid (by rw [hN]; exact hA2)
  have HC := Lib.hid hc
  have HS := Lib.hid hs
  obtain ⟨m2, m14, mev⟩ := four_len hs hc HA.out
  have HINV := Lib.hid (four_inv hs hc HA.out)
  have HZ := Lib.hid (four_zero hs hc HA.out)
  have HLT := Lib.hid (four_lt hs hc HA.out)
  have HOS : Hid (∀ x : Nat, x < 2 ^ cs.length → (N : Int) - 1 - (x : Int) = ((otherN cs.length x : Nat) : Int)) := Lib.hid (fun x hx => by rw [other_sub hx, hN]; rw [hN] at hx; omega)
  have HNN := Lib.hid hN
  obtain ⟨L, hL⟩ : ∃ L, fourN cs A = L := ⟨_, rfl⟩
  have HLL := Lib.hid hL
  rw [hL] at m2 m14 mev
  have mt : ((L.length : Nat) : Int).tmod 2 = 0 := by rw [Int.tmod_eq_emod_of_nonneg (by omega)]; omega
  have l1 : decide ((L.length : Int) < 2) = false := decide_eq_false (by omega)
  have l2 : decide ((14 : Int) < (L.length : Int)) = false := decide_eq_false (by omega)
  have l3 : decide (L.length < 2) = false := decide_eq_false (by omega)
  have l4 : decide (14 < L.length) = false := decide_eq_false (by omega)
  have l5 : (0 : Int) < (L.length : Int) := by omega
  have l6 : 0 < L.length := by omega
  clear hN hL hc hs
  go_wp2_with fail
  refine (HMA.out _).mono ?_
  rintro e w1 ⟨rfl, rfl⟩
  go_wp2_with fail
  refine (Fourteen_yes _ cs A _ rc HC.out HS.out HA.out (hT.below hb)).mono ?_
  rintro e w2 ⟨vs, rfl, hcol⟩
  rw [HLL.out] at hcol
  replace rc := rc.below hcol.below
  replace hb := below_to hb hb.size hcol.below
  have rs := hcol.reads
  clear hcol
  obtain ⟨vs_a, vs_c, rfl, _, _, _⟩ := rs.open
  rw [ofNats_len] at rs ⊢
  obtain ⟨b0, o0, hvs, hb0, hc0⟩ := rs.at.2 0 (by omega)
  have hz := HZ.out
  rw [HLL.out] at hz
  rw [hz, Nat.add_zero] at hc0
  subst hvs
  clear hz
  go_wp2_with fail
  go_loopw [10] (fun i wr => ∃ k : Nat, k ≤ L.length ∧ i = .int .i64 k ∧ Below w2.heap.size w2 wr) (fun i _ => L.length - (intOf i).toNat)
  case atStart => exact ⟨0, by omega, rfl, Below.refl _ _⟩
  case round =>
    obtain ⟨k, hk, rfl, hbr⟩ := hrel
    by_cases hlt : k < L.length
    · have rsr := rs.below hbr
      have rcr := rc.below hbr
      have HB := Lib.hid (below_to hb hb.size hbr)
      have HBR := Lib.hid hbr
      obtain ⟨b1, o1, he1, _, hc1⟩ := rsr.at.2 k hlt
      cases he1
      have k0 : (0 : Int) ≤ (k : Int) := by omega
      have k1 : (k : Int) < (L.length : Int) := by omega
      have hxl := HLT.out k
      rw [HLL.out] at hxl
      have HXL := Lib.hid hxl
      have hdone := HINV.out.done k (by rw [HLL.out]; exact hlt)
      rw [HLL.out] at hdone
      have hnd := HINV.out.nodup
      rw [HLL.out] at hnd
      have HT1 := Lib.hid (times_one hnd hdone.1)
      have HT2 := Lib.hid (times_one hnd hdone.2)
      have hos := HOS.out _ hxl
      obtain ⟨x, hx⟩ : ∃ x, cell L k = x := ⟨_, rfl⟩
      have HX := Lib.hid hx
      rw [hx] at hc1 hos
      have HC1 := Lib.hid hc1
      have hxN : x < N := by have := HXL.out; rw [HNN.out, hx] at this; exact this
      have HXL2 : Hid (x < 2 ^ cs.length) := Lib.hid (by have := HXL.out; rwa [hx] at this)
      obtain ⟨C, hC⟩ : ∃ C, closureN cs x = C := ⟨_, rfl⟩
      obtain ⟨O, hO⟩ : ∃ O, otherN cs.length x = O := ⟨_, rfl⟩
      have HCC := Lib.hid hC
      have HTC : Hid (timesTo L C L.length = 1) := Lib.hid (by have := HT1.out; rwa [hx, hC] at this)
      have HTO : Hid (timesTo L O L.length = 1) := Lib.hid (by have := HT2.out; rwa [hx, hO] at this)
      rw [hO] at hos
      have HRS := Lib.hid rsr
      have hON : O < N := by omega
      have HRC := Lib.hid rcr
      clear hbr hdone hnd hxl hx hC hO rsr rcr
      go_wp2_with fail
      refine (Closure_yes _ cs x _ HRC.out HC.out HS.out HXL2.out (hT.below HB.out)).mono ?_
      rintro e w9 ⟨rfl, hb9⟩
      rw [HCC.out]
      have HB9 := Lib.hid (HBR.out.trans (hb9.mono HBR.out.size))
      have rs9 := HRS.out.below hb9
      have hcell := rs9.at.2
      have HCELL := Lib.hid hcell
      obtain ⟨b3, o3, he3, _, hc3⟩ := hcell k hlt
      cases he3
      rw [HX.out] at hc3
      clear hb9 rs9 hcell hc1
      go_wp2_with fail
      go_loopw [13, 14, 15] (fun u v i wr' => ∃ j d : Nat, j ≤ L.length ∧ i = .int .i64 j ∧ u = .int .i64 (timesTo L C j : Nat) ∧ v = .int .i64 (timesTo L O j : Nat) ∧ wr' = w9.drewN d) (fun _ _ i _ => L.length - (intOf i).toNat)
      case atStart => exact ⟨0, 0, by omega, rfl, rfl, rfl, rfl⟩
      case round =>
        obtain ⟨j, d, hj, rfl, rfl, rfl, rfl⟩ := hrel
        by_cases hjl : j < L.length
        · have j0 : (0 : Int) ≤ (j : Int) := by omega
          have j1 : (j : Int) < (L.length : Int) := by omega
          obtain ⟨b4, o4, he4, _, hc4⟩ := HCELL.out j hjl
          cases he4
          have t1 := times_le L C j
          have t2 := times_le L O j
          have HN1 : Hid (timesTo L C (j + 1) = timesTo L C j + (if cell L j = C then 1 else 0)) := Lib.hid rfl
          have HN2 : Hid (timesTo L O (j + 1) = timesTo L O j + (if cell L j = O then 1 else 0)) := Lib.hid rfl
          generalize hG1 : timesTo L C j = G1 at *
          generalize hG2 : timesTo L O j = G2 at *
          rcases g1 : decide (cell L j = C) with _ | _
          all_goals
            rcases g2 : decide (cell L j = O) with _ | _
            all_goals
              first | have g1' := of_decide_eq_true g1 | have g1' := of_decide_eq_false g1
              first | have g2' := of_decide_eq_true g2 | have g2' := of_decide_eq_false g2
              first | (have e1 : (cell L j : Int) = (C : Int) := by omega) | (have e1 : ¬ (cell L j : Int) = (C : Int) := by omega)
              first | (have e2 : (cell L j : Int) = (O : Int) := by omega) | (have e2 : ¬ (cell L j : Int) = (O : Int) := by omega)
              first | (have e3 : ((cell L j : Int) == (O : Int)) = true := by rw [beq_iff_eq]; omega) | (have e3 : ((cell L j : Int) == (O : Int)) = false := by rw [beq_eq_false_iff_ne]; omega)
              have HG1 := Lib.hid g1'
              have HG2 := Lib.hid g2'
              clear g1 g2 g1' g2'
              go_wp2_with fail
              refine wp_region_quiet_lit (by kernel_rfl) (by kernel_rfl) ?_
              repeat (go_big_quiet_step (fail))
              refine wpQuiet_nil ?_
              intro _ hw'
              obtain ⟨nq, hw''⟩ := hw'
              subst hw''
              go_wp2_with fail
              go_roundw
              case rel => exact ⟨j + 1, _, by omega, by go_num, by rw [HN1.out]; simp [HG1.out], by rw [HN2.out]; simp [HG2.out], by first | rfl | exact World.drewN_drewN ..⟩
              case measure => simp [intOf]; omega
        · have hjn : j = L.length := by omega
          have HJ1 : Hid (timesTo L C j = 1) := Lib.hid (by rw [hjn]; exact HTC.out)
          have HJ2 : Hid (timesTo L O j = 1) := Lib.hid (by rw [hjn]; exact HTO.out)
          rw [HJ1.out, HJ2.out]
          clear hjn
          go_wp2_with fail
          go_roundw
          case rel => exact ⟨k + 1, by omega, by go_num, HB9.out.trans ((below_drewN _ _).mono HB9.out.size)⟩
          case measure => simp [intOf]; omega
    · replace hb := below_to hb hb.size hbr
      go_wp2_with fail
      refine (awake_any _ (hT.below hb)).mono ?_
      rintro e w3 ⟨rfl, hbn⟩
      replace hb := below_to hb hb.size hbn
      clear hbn
      go_wp2_with fail
      go_ret
      exact ⟨rfl, hb⟩
end Go.Proofs.YtppmgbjdbnedoakDoor
