import Derived.Test.YtppmgbjdbnedoagDoorMergeA
import Derived.Test.YtppmgbjdbnedoagDoorMergeB
/- PlyOpened. -/
set_option linter.unusedVariables false
set_option linter.unusedSimpArgs false
namespace Go.Proofs.YtppmgbjdbnedoagDoor
open Go.RowKit

theorem lit64 : (#[.bool false, .bool false, .bool false, .bool false, .bool false, .bool false, .bool false, .bool false, .bool false, .bool false, .bool false, .bool false, .bool false, .bool false, .bool false, .bool false, .bool false, .bool false, .bool false, .bool false, .bool false, .bool false, .bool false, .bool false, .bool false, .bool false, .bool false, .bool false, .bool false, .bool false, .bool false, .bool false, .bool false, .bool false, .bool false, .bool false, .bool false, .bool false, .bool false, .bool false, .bool false, .bool false, .bool false, .bool false, .bool false, .bool false, .bool false, .bool false, .bool false, .bool false, .bool false, .bool false, .bool false, .bool false, .bool false, .bool false, .bool false, .bool false, .bool false, .bool false, .bool false, .bool false, .bool false, .bool false] : Array Value) = Array.replicate 64 (.bool false) := by kernel_rfl
set_option maxRecDepth 100000 in
set_option maxHeartbeats 3200000 in
theorem PlyOpened_walk (a0 : Int) (sl : Value) (xs : List Int) (w : World) (h0 : -9223372036854775808 ≤ a0 ∧ a0 ≤ 9223372036854775807) (hr : Reads w sl xs) (hx : ∀ x ∈ xs, -9223372036854775808 ≤ x ∧ x ≤ 9223372036854775807) (hT : Tab w) :
    Calls Tryd.prog 3 #[.int .i64 a0, sl] w fun e w' => e = .returned (.bool true) ∧ Below w.heap.size w w' := by
  clear hx h0
  obtain ⟨ra, rcap, rfl, _, _, _⟩ := hr.open
  go_enter Tryd.func3, Tryd.ntmps3
  have hb := Below.refl w.heap.size w
  go_wp2_with fail
  refine (tame_any a0 _ xs 6 false _ hr (by omega) (by omega)).mono ?_
  rintro e w1 ⟨l, cs, rfl, hcol, hc, hs, _, _⟩
  replace hb := below_to hb hb.size hcol.below
  have rc := hcol.reads
  clear hcol hr
  obtain ⟨la, lc, rfl, _, _, _⟩ := rc.open
  rw [ofNats_len] at rc ⊢
  have hl1 := hc.1
  have hl6 := hc.2.1
  have HL1 := Lib.hid hl1
  have HL6 := Lib.hid hl6
  have HC := Lib.hid hc
  have HS := Lib.hid hs
  have HC64 := Lib.hid (cell_64 hc)
  have hN64 : 2 ^ cs.length ≤ 64 := Nat.pow_le_pow_right (n := 2) (by omega) hl6
  have HUP := Lib.hid (fun i j (h : i < j) (hj : j < (opensN cs).length) => opens_up cs h hj)
  have HOR := Lib.hid (fun x y (hx : x ∈ opensN cs) (hy : y ∈ opensN cs) => opens_or hx hy)
  have HAND := Lib.hid (fun x y (hx : x ∈ opensN cs) (hy : y ∈ opensN cs) => opens_and hx hy)
  have HCL := Lib.hid (fun p (hp : p < cs.length) => opens_cell hs hc hp)
  have HHAS := Lib.hid (fun x p (hx : x ∈ opensN cs) (hp : p < cs.length) (hb : x.testBit p = true) => opens_has hx hp hb)
  have HLTE : Hid (∀ x, x ∈ opensN cs → x < 2 ^ cs.length) := Lib.hid (fun x hx => (opens_mem.1 hx).1)
  have HFO := Lib.hid (from_opens hs hc)
  obtain ⟨_, hz⟩ := opens_first cs
  obtain ⟨h2, hlast⟩ := opens_last hc
  have hfew := opens_few hc
  obtain ⟨N, hN⟩ : ∃ N, 2 ^ cs.length = N := ⟨_, rfl⟩
  have hshN : ((2 : Int) ^ cs.length) = (N : Int) := by rw [← hN]; push_cast; rfl
  have hN1 : 1 ≤ N := by rw [← hN]; exact Nat.two_pow_pos _
  rw [show allN cs.length = N - 1 by unfold allN; rw [hN]] at hlast
  rw [hN] at hN64
  have HN := Lib.hid hN
  rw [hN] at HLTE
  obtain ⟨O, hO⟩ : ∃ O, opensN cs = O := ⟨_, rfl⟩
  have HOO := Lib.hid hO
  rw [hO] at HUP HOR HAND HCL HHAS HLTE HFO hz h2 hlast hfew
  have l1 : decide ((O.length : Int) < 2) = false := decide_eq_false (by omega)
  have l2 : decide ((64 : Int) < (O.length : Int)) = false := decide_eq_false (by omega)
  have l3 : decide (O.length < 2) = false := decide_eq_false (by omega)
  have l4 : decide (64 < O.length) = false := decide_eq_false (by omega)
  have l5 : (0 : Int) < (O.length : Int) := by omega
  have l6 : 0 < O.length := by omega
  have l7 : ((O.length : Int) - 1).toNat = O.length - 1 := by omega
  have l8 : (0 : Int) ≤ (O.length : Int) - 1 := by omega
  have l9 : (O.length : Int) - 1 < (O.length : Int) := by omega
  clear hO hN hc hs
  go_wp2_with fail
  refine (Opens_yes _ cs _ rc HC.out HS.out (hT.below hb)).mono ?_
  rintro e w1 ⟨vs, rfl, hcol⟩
  rw [HOO.out] at hcol
  replace rc := rc.below hcol.below
  replace hb := below_to hb hb.size hcol.below
  have rs := hcol.reads
  clear hcol
  obtain ⟨vs_a, vs_c, rfl, _, _, _⟩ := rs.open
  rw [ofNats_len] at rs ⊢
  obtain ⟨b0, o0, hvs, hb0, hc0⟩ := rs.at.2 0 (by omega)
  obtain ⟨b1, o1, hvs1, _, hcl⟩ := rs.at.2 (O.length - 1) (by omega)
  rw [hz, Nat.add_zero] at hc0
  rw [hlast, show ((N - 1 : Nat) : Int) = (N : Int) - 1 by omega] at hcl
  subst hvs
  cases hvs1
  clear hz hlast
  go_wp2_with fail
  refine wp_region_quiet_lit (by kernel_rfl) (by kernel_rfl) ?_
  repeat (go_big_quiet_step (fail))
  refine wpQuiet_nil ?_
  intro _ hw'
  obtain ⟨nq, hw''⟩ := hw'
  subst hw''
  replace rc := rc.below (below_drewN _ nq)
  replace rs := rs.below (below_drewN _ nq)
  replace hb := below_to hb hb.size (below_drewN _ nq)
  generalize hWa : World.drewN _ nq = Wa at *
  clear hWa hc0 hcl
  go_wp2_with fail
  have hrow : (Wa.alloc (.cells #[.bool false, .bool false, .bool false, .bool false, .bool false, .bool false, .bool false, .bool false, .bool false, .bool false, .bool false, .bool false, .bool false, .bool false, .bool false, .bool false, .bool false, .bool false, .bool false, .bool false, .bool false, .bool false, .bool false, .bool false, .bool false, .bool false, .bool false, .bool false, .bool false, .bool false, .bool false, .bool false, .bool false, .bool false, .bool false, .bool false, .bool false, .bool false, .bool false, .bool false, .bool false, .bool false, .bool false, .bool false, .bool false, .bool false, .bool false, .bool false, .bool false, .bool false, .bool false, .bool false, .bool false, .bool false, .bool false, .bool false, .bool false, .bool false, .bool false, .bool false, .bool false, .bool false, .bool false, .bool false] 27)).rowIs Wa.heap.size 27 64 (fun j => .bool (markB O 0 j)) := by rw [lit64]; exact World.rowIs_alloc Wa (Array.replicate 64 (.bool false)) 27 (fun j => .bool (markB O 0 j)) (fun i hi => by rw [mark_zero]; simp at hi; simp [hi])
  have hbw := (Below.refl Wa.heap.size Wa).alloc (Nat.le_refl _) (.cells #[.bool false, .bool false, .bool false, .bool false, .bool false, .bool false, .bool false, .bool false, .bool false, .bool false, .bool false, .bool false, .bool false, .bool false, .bool false, .bool false, .bool false, .bool false, .bool false, .bool false, .bool false, .bool false, .bool false, .bool false, .bool false, .bool false, .bool false, .bool false, .bool false, .bool false, .bool false, .bool false, .bool false, .bool false, .bool false, .bool false, .bool false, .bool false, .bool false, .bool false, .bool false, .bool false, .bool false, .bool false, .bool false, .bool false, .bool false, .bool false, .bool false, .bool false, .bool false, .bool false, .bool false, .bool false, .bool false, .bool false, .bool false, .bool false, .bool false, .bool false, .bool false, .bool false, .bool false, .bool false] 27)
  have HB0 : Hid (Wa.heap.size ≤ Wa.heap.size) := Lib.hid (Nat.le_refl _)
  have hB64 : (0 : Int) ≤ 64 := by omega
  generalize hW0 : World.alloc Wa _ = W0 at *
  obtain ⟨B0, hB0⟩ : ∃ B, B = Wa.heap.size := ⟨_, rfl⟩
  rw [← hB0] at hrow ⊢
  replace HB0 : Hid (Wa.heap.size ≤ B0) := Lib.hid (by omega)
  clear hW0 hB0
  have RS0 := Lib.hid rs
  have RC0 := Lib.hid rc
  have HBA := Lib.hid hb
  clear rs rc hb
  go_loopw [9] (fun i wr => ∃ k : Nat, k ≤ O.length ∧ i = .int .i64 k ∧ wr.rowIs B0 27 64 (fun j => .bool (markB O k j)) ∧ Below Wa.heap.size Wa wr) (fun i _ => O.length - (intOf i).toNat)
  case atStart => exact ⟨0, by omega, rfl, hrow, hbw⟩
  case round =>
    clear hrow hbw
    obtain ⟨k, hk, rfl, hrw, hbr⟩ := hrel
    by_cases hlt : k < O.length
    · have rs := RS0.out.below hbr
      obtain ⟨b1, o1, he1, _, hc1⟩ := rs.at.2 k hlt
      cases he1
      have k0 : (0 : Int) ≤ (k : Int) := by omega
      have k1 : (k : Int) < (O.length : Int) := by omega
      have hxm := cell_mem hlt
      have hxl := HLTE.out _ hxm
      have HMK := Lib.hid (fun j => mark_next hlt j)
      obtain ⟨x, hx⟩ : ∃ x, cell O k = x := ⟨_, rfl⟩
      have HX := Lib.hid hx
      rw [hx] at hc1 hxl HMK
      have hx64 : x < 64 := by omega
      have x0 : decide ((64 : Int) ≤ (x : Int)) = false := decide_eq_false (by omega)
      have x0n : decide (64 ≤ x) = false := decide_eq_false (by omega)
      have x1 : (x : Int) < 64 := by omega
      have x2 : (0 : Int) ≤ (x : Int) := by omega
      clear hx hxm
      rcases Nat.eq_zero_or_pos k with hk0 | hk0
      · subst hk0
        rw [Nat.add_zero] at hc1
        go_wp2_with fail
        refine wp_region_quiet_lit (by kernel_rfl) (by kernel_rfl) ?_
        repeat (go_big_quiet_step (fail))
        refine wpQuiet_nil ?_
        intro _ hw'
        obtain ⟨nq, hw''⟩ := hw'
        subst hw''
        have hst := (hrw.of_block (heap_drewN wr nq B0)).cell hx64
        have hfr := (hrw.of_block (heap_drewN wr nq B0)).frozen x
        have hss := (hrw.of_block (heap_drewN wr nq B0)).set x (.bool true)
        have hbs := (hbr.trans ((below_drewN _ nq).mono hbr.size)).setCell (p := ⟨B0, x, none⟩) HB0.out (.bool true)
        have HSS := Lib.hid hss
        have HBS := Lib.hid hbs
        clear hss hbs hbr hrw
        go_wp2_with fail
        go_roundw
        case rel => exact ⟨0 + 1, by omega, by go_num, HSS.out.congr (fun j hj => by
          have := HMK.out j
          rw [this]
          by_cases e : j = x
          · rw [if_pos e, if_pos e]
          · rw [if_neg e, if_neg e]), HBS.out⟩
        case measure => simp [intOf]; omega
      · obtain ⟨j, rfl⟩ : ∃ j, k = j + 1 := ⟨k - 1, by omega⟩
        obtain ⟨b2, o2, he2, _, hcj⟩ := rs.at.2 j (by omega)
        cases he2
        have hup := HUP.out j (j + 1) (by omega) hlt
        rw [HX.out] at hup
        generalize cell O j = y at *
        have x4 : decide ((x : Int) ≤ (y : Int)) = false := decide_eq_false (by omega)
        have x4n : decide (x ≤ y) = false := decide_eq_false (by omega)
        have x5 : ((j : Int) + 1).toNat = j + 1 := by omega
        have x6 : (0 : Int) < (j : Int) + 1 := by omega
        have x7 : (j : Int) < (O.length : Int) := by omega
        have x8 : (j : Int) + 1 < (O.length : Int) := by omega
        have x9 : (0 : Int) ≤ (j : Int) := by omega
        have x10 : (0 : Int) ≤ (j : Int) + 1 := by omega
        clear hup
        go_wp2_with fail
        refine wp_region_quiet_lit (by kernel_rfl) (by kernel_rfl) ?_
        repeat (go_big_quiet_step (fail))
        refine wpQuiet_nil ?_
        intro _ hw'
        obtain ⟨nq, hw''⟩ := hw'
        subst hw''
        have hst := (hrw.of_block (heap_drewN wr nq B0)).cell hx64
        have hfr := (hrw.of_block (heap_drewN wr nq B0)).frozen x
        have hss := (hrw.of_block (heap_drewN wr nq B0)).set x (.bool true)
        have hbs := (hbr.trans ((below_drewN _ nq).mono hbr.size)).setCell (p := ⟨B0, x, none⟩) HB0.out (.bool true)
        have HSS := Lib.hid hss
        have HBS := Lib.hid hbs
        clear hss hbs hbr hrw
        go_wp2_with fail
        go_roundw
        case rel => exact ⟨(j + 1) + 1, by omega, by go_num, HSS.out.congr (fun j hj => by
          have := HMK.out j
          rw [this]
          by_cases e : j = x
          · rw [if_pos e, if_pos e]
          · rw [if_neg e, if_neg e]), HBS.out⟩
        case measure => simp [intOf]; omega
    · have hkn : k = O.length := by omega
      have rs := RS0.out.below hbr
      have rc := RC0.out.below hbr
      have hb := below_to HBA.out HBA.out.size hbr
      have HMB : Hid (∀ x, x ∈ O → wr.cell? ⟨B0, x, none⟩ = some (.bool true)) := Lib.hid (fun x hx => by
        have h1 := hrw.cell (i := x) (by have := HLTE.out x hx; omega)
        rw [hkn, mark_all hx] at h1
        exact h1)
      have HSC := Lib.hid rs.at.2
      have HCC := Lib.hid rc.at.2
      clear hrw hbr RS0 RC0 HBA hkn
      generalize hW5 : wr = W5 at *
      clear hW5
      go_wp2_with fail
      go_loopw [10] (fun i wr => ∃ k m : Nat, k ≤ O.length ∧ i = .int .i64 k ∧ wr = W5.drewN m) (fun i _ => O.length - (intOf i).toNat)
      case atStart => exact ⟨0, 0, by omega, rfl, rfl⟩
      case round =>
        clear hk hlt
        obtain ⟨k, m, hk, rfl, rfl⟩ := hrel
        by_cases hlt : k < O.length
        · obtain ⟨b1, o1, he1, _, hc1⟩ := HSC.out k hlt
          cases he1
          have k0 : (0 : Int) ≤ (k : Int) := by omega
          have k1 : (k : Int) < (O.length : Int) := by omega
          have hxm := cell_mem hlt
          obtain ⟨x, hx⟩ : ∃ x, cell O k = x := ⟨_, rfl⟩
          rw [hx] at hc1 hxm
          have hx64 : x < 64 := by have := HLTE.out _ hxm; omega
          have HXM := Lib.hid hxm
          clear hx hxm
          go_wp2_with fail
          go_loopw [11] (fun i wr => ∃ q d : Nat, q ≤ k ∧ i = .int .i64 q ∧ wr = W5.drewN d) (fun i _ => k - (intOf i).toNat)
          case atStart => exact ⟨0, m, by omega, rfl, rfl⟩
          case round =>
            obtain ⟨q, d, hq, rfl, rfl⟩ := hrel
            by_cases hql : q < k
            · obtain ⟨b2, o2, he2, _, hc2⟩ := HSC.out q (by omega)
              cases he2
              have q0 : (0 : Int) ≤ (q : Int) := by omega
              have q1 : (q : Int) < (k : Int) := by omega
              have q2 : (q : Int) < (O.length : Int) := by omega
              have hym := cell_mem (show q < O.length by omega)
              obtain ⟨y, hy⟩ : ∃ y, cell O q = y := ⟨_, rfl⟩
              rw [hy] at hc2 hym
              have hy64 : y < 64 := by have := HLTE.out _ hym; omega
              have hom := HOR.out x y HXM.out hym
              have ham := HAND.out x y HXM.out hym
              have e1 := i64_or x y (by omega) (by omega)
              have e2 := i64_and x y (by omega) (by omega)
              have g1 := HMB.out _ hom
              have g2 := HMB.out _ ham
              have u1 := HLTE.out _ hom
              have u2 := HLTE.out _ ham
              generalize (x ||| y) = X1 at *
              generalize (x &&& y) = X2 at *
              have v1 : (X1 : Int) < 64 := by omega
              have v2 : (X2 : Int) < 64 := by omega
              have v3 : (0 : Int) ≤ (X1 : Int) := by omega
              have v4 : (0 : Int) ≤ (X2 : Int) := by omega
              clear hy hym hom ham
              go_wp2_with fail
              refine wp_region_quiet_lit (by kernel_rfl) (by kernel_rfl) ?_
              repeat (go_big_quiet_step (fail))
              refine wpQuiet_nil ?_
              intro _ hw'
              obtain ⟨nq, hw''⟩ := hw'
              subst hw''
              go_wp2_with fail
              go_roundw
              case rel => exact ⟨q + 1, _, by omega, by go_num, by first | rfl | exact World.drewN_drewN ..⟩
              case measure => simp [intOf]; omega
            · go_wp2_with fail
              go_loopw [12] (fun i wr => ∃ p d : Nat, p ≤ cs.length ∧ i = .int .i64 p ∧ wr = W5.drewN d) (fun i _ => cs.length - (intOf i).toNat)
              case atStart => exact ⟨0, d, by omega, rfl, rfl⟩
              case round =>
                clear hq hql
                obtain ⟨p, d, hp, rfl, rfl⟩ := hrel
                by_cases hpl : p < cs.length
                · obtain ⟨b3, o3, he3, _, hc3⟩ := HCC.out p hpl
                  subst he3
                  have p0 : (0 : Int) ≤ (p : Int) := by omega
                  have p1 : (p : Int) < (cs.length : Int) := by omega
                  have hbit0 := refhas_bit x p
                  have hcm := HCL.out p hpl
                  have hcl := HLTE.out _ hcm
                  have g1 := HMB.out _ hcm
                  have hca := HHAS.out x p HXM.out hpl
                  have e2 := i64_and (cell cs p) x (by omega) (by omega)
                  generalize cell cs p = C at *
                  have v1 : (C : Int) < 64 := by omega
                  have v3 : (0 : Int) ≤ (C : Int) := by omega
                  rcases hbit : x.testBit p with _ | _
                  · rw [hbit] at hbit0
                    clear hbit hcm hca e2
                    go_wp2_with fail
                    refine wp_region_quiet_lit (by kernel_rfl) (by kernel_rfl) ?_
                    repeat (go_big_quiet_step (fail))
                    refine wpQuiet_nil ?_
                    intro _ hw'
                    obtain ⟨nq, hw''⟩ := hw'
                    subst hw''
                    go_wp2_with fail
                    go_roundw
                    case rel => exact ⟨p + 1, _, by omega, by go_num, by first | rfl | exact World.drewN_drewN ..⟩
                    case measure => simp [intOf]; omega
                  · rw [hbit] at hbit0
                    rw [hca hbit] at e2
                    clear hbit hcm hca
                    go_wp2_with fail
                    refine wp_region_quiet_lit (by kernel_rfl) (by kernel_rfl) ?_
                    repeat (go_big_quiet_step (fail))
                    refine wpQuiet_nil ?_
                    intro _ hw'
                    obtain ⟨nq, hw''⟩ := hw'
                    subst hw''
                    go_wp2_with fail
                    go_roundw
                    case rel => exact ⟨p + 1, _, by omega, by go_num, by first | rfl | exact World.drewN_drewN ..⟩
                    case measure => simp [intOf]; omega
                · go_wp2_with fail
                  go_roundw
                  case rel => exact ⟨k + 1, _, by omega, by go_num, by first | rfl | exact World.drewN_drewN ..⟩
                  case measure => simp [intOf]; omega
        · replace rs := rs.below (below_drewN _ m)
          replace rc := rc.below (below_drewN _ m)
          replace hb := below_to hb hb.size (below_drewN _ m)
          generalize hW6 : World.drewN _ m = W6 at *
          clear hW6 HSC HCC HMB
          have HLT6 : Hid (∀ j, cell O j < 2 ^ cs.length) := Lib.hid (fun j => by
            rw [HN.out]
            by_cases h : j < O.length
            · exact HLTE.out _ (cell_mem h)
            · rw [cell_far (by omega)]; omega)
          go_wp2_with fail
          refine (From_yes cs.length _ O _ HL1.out HL6.out rs HLT6.out).mono ?_
          rintro e w2 ⟨vf, rfl, hcol⟩
          rw [HFO.out] at hcol
          replace rc := rc.below hcol.below
          replace rs := rs.below hcol.below
          replace hb := below_to hb hb.size hcol.below
          have rf := hcol.reads
          clear hcol
          obtain ⟨vf_a, vf_c, rfl, _, _, _⟩ := rf.open
          rw [ofNats_len] at rf ⊢
          go_wp2_with fail
          refine (ints_same _ _ _ _ rf rc).mono ?_
          rintro e w3 ⟨rfl, m3, rfl⟩
          replace rc := rc.below (below_drewN _ m3)
          replace rs := rs.below (below_drewN _ m3)
          replace rf := rf.below (below_drewN _ m3)
          replace hb := below_to hb hb.size (below_drewN _ m3)
          generalize hW3 : World.drewN _ m3 = W3 at *
          skip
          clear hW3
          go_wp2_with fail
          refine (awake_any _ (hT.below hb)).mono ?_
          rintro e w4 ⟨rfl, hbn⟩
          replace rc := rc.below hbn
          replace rs := rs.below hbn
          replace rf := rf.below hbn
          replace hb := below_to hb hb.size hbn
          clear hbn
          go_wp2_with fail
          go_ret
          exact ⟨rfl, hb⟩
end Go.Proofs.YtppmgbjdbnedoagDoor
