/- ply's reference: Codes, IsSpace, Space, Plain. -/
import Derived.Test.YtiihnfcgffaabaaDoorPNs
import Derived.Test.YtiihnfcgffaabaaDoorPList
set_option linter.unusedVariables false
set_option linter.unusedSimpArgs false
namespace Go.Proofs.YtiihnfcgffaabaaDoor
open Go.RowKit Go.Shelf

set_option maxRecDepth 100000 in
set_option maxHeartbeats 1600000 in
theorem refCodes_any (v : Value) (xs : List Int) (w : World) (hr : Reads w v xs) :
    Calls Tryd.prog 17 #[v] w fun e w' => e = .returned (.bool (okB xs)) ∧ Below w.heap.size w w' := by
  have hr0 := hr
  obtain ⟨a, cap, rfl, h1, h2, hcell⟩ := hr.open
  have HR := Lib.hid hr0
  have h3 : xs.length ≤ 9223372036854775807 := by unfold maxLen at h2; omega
  clear h2 hr hr0
  by_cases hl : xs.length ≤ 6
  · obtain ⟨n, hn⟩ : ∃ n, xs.length = n := ⟨_, rfl⟩
    rw [hn] at h1 h3 hcell hl ⊢
    have HN := Lib.hid hn
    clear hn
    have hl' : (n : Int) ≤ 6 := by omega
    obtain ⟨N, hN⟩ : ∃ N, 2 ^ n = N := ⟨_, rfl⟩
    have hsh : ((2 : Int) ^ n) = (N : Int) := by rw [← hN]; push_cast; rfl
    have hN64 : N ≤ 64 := by rw [← hN]; exact Nat.pow_le_pow_right (n := 2) (by omega) hl
    go_enter Tryd.func17, Tryd.ntmps17
    go_wp2_with fail
    go_loopw [3] (fun i wr => ∃ k m : Nat, k ≤ n ∧ i = .int .i64 k ∧ (∀ j, j < k → setB n (gi xs j) = true) ∧ wr = w.drewN m) (fun i _ => n - (intOf i).toNat)
    case atStart => exact ⟨0, 0, by omega, rfl, fun j hj => by omega, rfl⟩
    case round =>
      obtain ⟨k, m, hk, rfl, hd, rfl⟩ := hrel
      have HD := Lib.hid hd
      clear hd
      by_cases hlt : k < n
      · obtain ⟨b, off, rfl, hb, hck⟩ := hcell k hlt
        have k0 : (0 : Int) ≤ (k : Int) := by omega
        have k1 : (k : Int) < (n : Int) := by omega
        clear hcell
        have hset : ∀ x, setB n x = (decide (0 ≤ x) && decide (x < (N : Int))) := fun x => by
          rw [Bool.eq_iff_iff, setB_iff, Bool.and_eq_true, decide_eq_true_eq, decide_eq_true_eq, ← hsh]
        generalize hg : gi xs k = g at *
        have HG := Lib.hid hg
        have HSET := Lib.hid hset
        clear hset hg
        by_cases hx : 0 ≤ g
        · have hx' : decide (g < 0) = false := by simp; omega
          by_cases hy : g < (N : Int)
          · have hy' : decide ((N : Int) ≤ g) = false := by simp; omega
            go_wp2_with fail
            refine wp_region_quiet_lit (by kernel_rfl) (by kernel_rfl) ?_
            repeat (go_big_quiet_step (fail))
            refine wpQuiet_nil ?_
            intro _ hw'
            obtain ⟨nq, hw''⟩ := hw'
            subst hw''
            go_wp2_with fail
            go_roundw
            case rel => exact ⟨k + 1, _, by omega, by go_num, fun j hj => by
              by_cases e : j = k
              · subst e; rw [HG.out, HSET.out, decide_eq_true hx, decide_eq_true hy]; rfl
              · exact HD.out j (by omega), by first | rfl | exact World.drewN_drewN ..⟩
            case measure => simp [intOf]; omega
          · have hy' : decide ((N : Int) ≤ g) = true := by simp; omega
            go_wp2_with fail
            refine wp_region_quiet_lit (by kernel_rfl) (by kernel_rfl) ?_
            repeat (go_big_quiet_step (fail))
            refine wpQuiet_nil ?_
            intro _ hw'
            obtain ⟨nq, hw''⟩ := hw'
            subst hw''
            go_wp2_with fail
            go_ret
            refine ⟨ret_bool ?_, by first | exact below_drewN _ _ | exact (below_drewN _ _).trans ((below_drewN _ _).mono (below_drewN w _).size)⟩
            symm
            rcases ho : okB xs with _ | _
            · rfl
            · unfold okB at ho
              rw [Bool.and_eq_true, HN.out] at ho
              have h9 := codesB_iff.1 ho.2 k (by rw [HN.out]; exact hlt)
              rw [HG.out, HSET.out, Bool.and_eq_true, decide_eq_true_eq, decide_eq_true_eq] at h9
              omega
        · have hx' : decide (g < 0) = true := by simp; omega
          go_wp2_with fail
          refine wp_region_quiet_lit (by kernel_rfl) (by kernel_rfl) ?_
          repeat (go_big_quiet_step (fail))
          refine wpQuiet_nil ?_
          intro _ hw'
          obtain ⟨nq, hw''⟩ := hw'
          subst hw''
          go_wp2_with fail
          go_ret
          refine ⟨ret_bool ?_, by first | exact below_drewN _ _ | exact (below_drewN _ _).trans ((below_drewN _ _).mono (below_drewN w _).size)⟩
          symm
          rcases ho : okB xs with _ | _
          · rfl
          · unfold okB at ho
            rw [Bool.and_eq_true, HN.out] at ho
            have h9 := codesB_iff.1 ho.2 k (by rw [HN.out]; exact hlt)
            rw [HG.out, HSET.out, Bool.and_eq_true, decide_eq_true_eq, decide_eq_true_eq] at h9
            omega
      · have hkn : k = n := by omega
        have HK := Lib.hid hkn
        clear hkn hcell
        have HC : Hid (codesB xs.length xs = true) := Lib.hid (codesB_iff.2 fun j hj => by rw [HN.out]; exact HD.out j (by rw [HK.out]; rw [HN.out] at hj; exact hj))
        by_cases h1n : 1 ≤ n
        · have h1' : (1 : Int) ≤ (n : Int) := by omega
          go_wp2_with fail
          go_ret
          refine ⟨ret_bool ?_, below_drewN _ _⟩
          unfold okB
          rw [HC.out, HN.out]
          simp [h1n, hl]
        · have h1' : ¬ (1 : Int) ≤ (n : Int) := by omega
          go_wp2_with fail
          go_ret
          refine ⟨ret_bool ?_, below_drewN _ _⟩
          unfold okB
          rw [HN.out]
          simp [h1n]
  · have hl' : decide ((xs.length : Int) ≤ 6) = false := by simp; omega
    have h0 : (0 : Int) < (xs.length : Int) := by omega
    have h0n : 0 < xs.length := by omega
    have h10 : decide ((1 : Int) ≤ (xs.length : Int)) = true := by simp; omega
    clear hcell
    go_enter Tryd.func17, Tryd.ntmps17
    go_wp2_with fail
    go_loopw [3] (fun i wr => i = .int .i64 0 ∧ wr = w) (fun i _ => 0)
    case atStart => exact ⟨rfl, rfl⟩
    case round =>
      obtain ⟨rfl, rfl⟩ := hrel
      go_wp2_with fail
      go_ret
      refine ⟨ret_bool ?_, Below.refl _ _⟩
      unfold okB
      simp [hl]

set_option maxRecDepth 100000 in
set_option maxHeartbeats 3200000 in
theorem refIsSpace_any (v : Value) (cs : List Nat) (w : World) (hr : Reads w v (ofNats cs)) (hc : Codes cs) :
    Calls Tryd.prog 18 #[v] w fun e w' => e = .returned (.bool (spaceB cs)) ∧ Below w.heap.size w w' := by
  have hr0 := hr
  obtain ⟨a, cap, rfl, h1, h2, hcell⟩ := hr.open
  have hl6 := hc.2.1
  have HC := Lib.hid (cell_64 hc)
  have hlen := ofNats_len cs
  rw [hlen] at h1 hcell ⊢
  obtain ⟨n, hn⟩ : ∃ n, cs.length = n := ⟨_, rfl⟩
  rw [hn] at h1 hcell hl6 ⊢
  have HN := Lib.hid hn
  clear h2 hr hr0 hc hlen hn
  go_enter Tryd.func18, Tryd.ntmps18
  go_wp2_with fail
  go_loopw [3] (fun i wr => ∃ k m : Nat, k ≤ n ∧ i = .int .i64 k ∧ (∀ p, p < k → (cell cs p).testBit p = true ∧ ∀ q, q < n → (cell cs p).testBit q = true → subB (cell cs q) (cell cs p) = true) ∧ wr = w.drewN m) (fun i _ => n - (intOf i).toNat)
  case atStart => exact ⟨0, 0, by omega, rfl, fun p hp => by omega, rfl⟩
  case round =>
    obtain ⟨k, m, hk, rfl, hdone, rfl⟩ := hrel
    have HD := Lib.hid hdone
    clear hdone
    by_cases hlt : k < n
    · have hcell0 := hcell
      obtain ⟨b, off, rfl, hb, hck⟩ := hcell k hlt
      rw [gi_nats] at hck
      have hc64 := HC.out k
      have k0 : (0 : Int) ≤ (k : Int) := by omega
      have k1 : (k : Int) < (n : Int) := by omega
      have HCELL := Lib.hid hcell
      clear hcell hcell0
      rcases hbit : (cell cs k).testBit k with _ | _
      · have HB := Lib.hid hbit
        clear hbit
        go_wp2_with fail
        refine (refHas_any (cell cs k) k _ hc64 (by omega)).mono ?_
        rintro e w' ⟨rfl, rfl⟩
        rw [HB.out]
        go_wp2_with fail
        go_ret
        refine ⟨ret_bool ?_, below_drewN _ _⟩
        symm
        rcases ho : spaceB cs with _ | _
        · rfl
        · have := (space_iff.1 ho k (by rw [HN.out]; exact hlt)).1
          rw [HB.out] at this; cases this
      · have HB := Lib.hid hbit
        clear hbit
        go_wp2_with fail
        refine (refHas_any (cell cs k) k _ hc64 (by omega)).mono ?_
        rintro e w' ⟨rfl, rfl⟩
        rw [HB.out]
        go_wp2_with fail
        go_loopw [4] (fun i wr => ∃ j m : Nat, j ≤ n ∧ i = .int .i64 j ∧ (∀ q, q < j → (cell cs k).testBit q = true → subB (cell cs q) (cell cs k) = true) ∧ wr = w.drewN m) (fun i _ => n - (intOf i).toNat)
        case atStart => exact ⟨0, _, by omega, rfl, fun p hp => by omega, rfl⟩
        case round =>
          obtain ⟨j, m2, hj, rfl, hd2, rfl⟩ := hrel
          have HD2 := Lib.hid hd2
          clear hd2
          by_cases hjn : j < n
          · obtain ⟨b2, off2, he, hb2, hcj⟩ := HCELL.out j hjn
            cases he
            rw [gi_nats] at hcj
            have hj64 := HC.out j
            have j0 : (0 : Int) ≤ (j : Int) := by omega
            have j1 : (j : Int) < (n : Int) := by omega
            have HA : ∀ b, (cell cs k).testBit j = b → Hid (∀ w, Calls Tryd.prog 31 #[.int .i64 (cell cs k), .int .i64 j] w fun e w' => e = .returned (.bool b) ∧ w = w') := fun b h => Lib.hid (fun w => by have := refHas_any (cell cs k) j w hc64 (by omega); rwa [h] at this)
            have HS : ∀ b, subB (cell cs j) (cell cs k) = b → Hid (∀ w, Calls Tryd.prog 25 #[.int .i64 (cell cs j), .int .i64 (cell cs k)] w fun e w' => e = .returned (.bool b) ∧ w = w') := fun b h => Lib.hid (fun w => by have := refWithin_any (cell cs j) (cell cs k) w hj64 hc64; rwa [h] at this)
            rcases hb1 : (cell cs k).testBit j with _ | _
            · replace HA := HA _ hb1
              have HB1 := Lib.hid hb1
              clear HS hb1
              go_wp2_with fail
              refine wp_region_quiet_lit (by kernel_rfl) (by kernel_rfl) ?_
              repeat (go_big_quiet_step (fail))
              quiet_step ((go_at_call 31; exact (HA.out _).mono (fun e w' h => ⟨h.1, _, h.2.symm⟩)))
              repeat (go_big_quiet_step (fail))
              refine wpQuiet_nil ?_
              intro _ hw'
              obtain ⟨nq, hw''⟩ := hw'
              subst hw''
              go_wp2_with fail
              go_roundw
              case rel => exact ⟨j + 1, _, by omega, by go_num, fun q hq hqb => by
                by_cases e : q = j
                · subst e; rw [HB1.out] at hqb; cases hqb
                · exact HD2.out q (by omega) hqb, by first | rfl | exact World.drewN_drewN ..⟩
              case measure => simp [intOf]; omega
            · replace HA := HA _ hb1
              have HB1 := Lib.hid hb1
              clear hb1
              rcases hs1 : subB (cell cs j) (cell cs k) with _ | _
              · replace HS := HS _ hs1
                have HS1 := Lib.hid hs1
                clear hs1
                go_wp2_with fail
                refine wp_region_quiet_lit (by kernel_rfl) (by kernel_rfl) ?_
                repeat (go_big_quiet_step (fail))
                quiet_step ((go_at_call 31; exact (HA.out _).mono (fun e w' h => ⟨h.1, _, h.2.symm⟩)))
                repeat (go_big_quiet_step (fail))
                quiet_step ((go_at_call 25; exact (HS.out _).mono (fun e w' h => ⟨h.1, _, h.2.symm⟩)))
                repeat (go_big_quiet_step (fail))
                refine wpQuiet_nil ?_
                intro _ hw'
                obtain ⟨nq, hw''⟩ := hw'
                subst hw''
                go_wp2_with fail
                go_ret
                refine ⟨ret_bool ?_, by first | exact below_drewN _ _ | exact (below_drewN _ _).trans ((below_drewN _ _).mono (below_drewN w _).size)⟩
                symm
                rcases ho : spaceB cs with _ | _
                · rfl
                · have := (space_iff.1 ho k (by rw [HN.out]; exact hlt)).2 j (by rw [HN.out]; exact hjn) HB1.out
                  rw [HS1.out] at this; cases this
              · replace HS := HS _ hs1
                have HS1 := Lib.hid hs1
                clear hs1
                go_wp2_with fail
                refine wp_region_quiet_lit (by kernel_rfl) (by kernel_rfl) ?_
                repeat (go_big_quiet_step (fail))
                quiet_step ((go_at_call 31; exact (HA.out _).mono (fun e w' h => ⟨h.1, _, h.2.symm⟩)))
                repeat (go_big_quiet_step (fail))
                quiet_step ((go_at_call 25; exact (HS.out _).mono (fun e w' h => ⟨h.1, _, h.2.symm⟩)))
                repeat (go_big_quiet_step (fail))
                refine wpQuiet_nil ?_
                intro _ hw'
                obtain ⟨nq, hw''⟩ := hw'
                subst hw''
                go_wp2_with fail
                go_roundw
                case rel => exact ⟨j + 1, _, by omega, by go_num, fun q hq hqb => by
                  by_cases e : q = j
                  · subst e; exact HS1.out
                  · exact HD2.out q (by omega) hqb, by first | rfl | exact World.drewN_drewN ..⟩
                case measure => simp [intOf]; omega
          · have hjn2 : j = n := by omega
            have HJ := Lib.hid hjn2
            clear hjn2
            go_wp2_with fail
            go_roundw
            case rel => exact ⟨k + 1, _, by omega, by go_num, fun p hp => by
              by_cases e : p = k
              · subst e; exact ⟨HB.out, fun q hq hqb => HD2.out q (by rw [HJ.out]; exact hq) hqb⟩
              · exact HD.out p (by omega), rfl⟩
            case measure => simp [intOf]; omega
    · have hkn : k = n := by omega
      have HK := Lib.hid hkn
      clear hkn hcell
      go_wp2_with fail
      go_ret
      refine ⟨ret_bool ?_, below_drewN _ _⟩
      symm
      exact space_iff.2 fun p hp => by
        rw [HN.out] at hp
        obtain ⟨h1, h2⟩ := HD.out p (by omega)
        exact ⟨h1, fun q hq hb => h2 q (by rw [← HN.out]; exact hq) hb⟩
set_option maxRecDepth 100000 in
theorem refSpace_any (v : Value) (xs : List Int) (w : World) (hr : Reads w v xs) :
    Calls Tryd.prog 8 #[v] w fun e w' => e = .returned (.bool (spL xs)) ∧ Below w.heap.size w w' := by
  have hr0 := hr
  obtain ⟨a, cap, rfl, _, _, _⟩ := hr.open
  clear hr
  rcases ho : okB xs with _ | _
  · have hsp : spL xs = false := by unfold spL; rw [ho]; rfl
    rw [hsp]
    have HO := Lib.hid ho
    clear ho hsp
    go_enter Tryd.func8, Tryd.ntmps8
    go_wp2_with fail
    refine (refCodes_any _ xs _ hr0).mono ?_
    rintro e w1 ⟨rfl, hb⟩
    rw [HO.out]
    go_wp2_with fail
    go_ret
    exact ⟨rfl, hb⟩
  · obtain ⟨hc, hx⟩ := ok_codes ho
    have hsp : spL xs = spaceB (natsOf xs) := by unfold spL; rw [ho, Bool.true_and]
    rw [hsp]
    have HO := Lib.hid ho
    have HX := Lib.hid hx
    clear ho hsp hx
    go_enter Tryd.func8, Tryd.ntmps8
    go_wp2_with fail
    refine (refCodes_any _ xs _ hr0).mono ?_
    rintro e w1 ⟨rfl, hb⟩
    rw [HO.out]
    have hr1 := hr0.below hb
    go_wp2_with fail
    refine (refIsSpace_any _ (natsOf xs) _ (by rw [← HX.out]; exact hr1) hc).mono ?_
    rintro e w2 ⟨rfl, hb2⟩
    go_wp2_with fail
    go_ret
    exact ⟨rfl, below_to hb hb.size hb2⟩

end Go.Proofs.YtiihnfcgffaabaaDoor
