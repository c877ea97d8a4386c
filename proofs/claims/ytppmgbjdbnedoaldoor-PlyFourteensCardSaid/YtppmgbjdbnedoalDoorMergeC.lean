import Derived.Test.YtppmgbjdbnedoalDoorMergeA
import Derived.Test.YtppmgbjdbnedoalDoorMergeB
import Derived.Laws.EntriesVeiled
/- ply's reference: Pieces. -/
set_option linter.unusedVariables false
set_option linter.unusedSimpArgs false
namespace Go.Proofs.YtppmgbjdbnedoalDoor
open Go.RowKit

theorem best_next (cs : List Nat) (left low k : Nat) : bestTo cs left low (k + 1) = if (subB (k + 1) left && (subB low (k + 1) && (subB (bestTo cs left low k) (k + 1) && joinedB cs (k + 1)))) = true then k + 1 else bestTo cs left low k := rfl
theorem best_step {cs : List Nat} {left low k M b : Nat} (hM : M = k + 1) (hb : bestTo cs left low k = b) : bestTo cs left low M = if (subB M left && (subB low M && (subB b M && joinedB cs M))) = true then M else b := by
  subst hM hb; rfl
theorem nats_snoc (l : List Nat) (x : Nat) : ofNats (l ++ [x]) = ofNats l ++ [(x : Int)] := by simp [ofNats]
set_option maxRecDepth 100000 in
set_option maxHeartbeats 3200000 in
theorem refPieces_any (v : Value) (cs : List Nat) (s : Nat) (w : World) (hr : Reads w v (ofNats cs)) (hc : Codes cs) (hs : s < 2 ^ cs.length) :
    Calls Tryd.prog 12 #[v, .int .i64 s] w fun e w' => ∃ v', e = .returned v' ∧ Col w w' v' (ofNats (piecesOf cs s s)) := by
  obtain ⟨a, cap, rfl, _, _, _⟩ := hr.open
  rw [ofNats_len] at hr ⊢
  have hl6 := hc.2.1
  have hs64 : s < 64 := Nat.lt_of_lt_of_le hs (Nat.pow_le_pow_right (n := 2) (by omega) hl6)
  have HC := Lib.hid hc
  have HS := Lib.hid hs
  have HR := Lib.hid hr
  have hlen := piecesOf_len hc hs s s LeftI.start (Nat.le_refl _)
  obtain ⟨L, hL⟩ : ∃ L, piecesOf cs s s = L := ⟨_, rfl⟩
  rw [hL] at hlen ⊢
  have HL0 := Lib.hid hL
  clear hL hr hc hs
  go_enter Tryd.func12, Tryd.ntmps12
  go_wp2_with fail
  go_loopw [1, 5] (fun x v wr => ∃ (left : Nat) (pre : List Nat), LeftI cs s left ∧ L = pre ++ piecesOf cs s left ∧ x = .int .i64 left ∧ Col w wr v (ofNats pre)) (fun x _ _ => (intOf x).toNat)
  case atStart => exact ⟨s, [], LeftI.start, by rw [HL0.out]; rfl, rfl, by simpa [ofNats] using Col.nil w⟩
  case round =>
    obtain ⟨left, pre, hli, hpre, rfl, hcol⟩ := hrel
    have hll := sub_le hli.sub
    by_cases h0 : left = 0
    · subst h0
      have HP : Hid (pre = L) := Lib.hid (by rw [hpre, piecesOf_zero, List.append_nil])
      clear hpre
      go_wp2_with fail
      go_ret
      exact ⟨_, rfl, by rw [← HP.out]; exact hcol⟩
    · obtain ⟨p, hp⟩ := hli.piece HC.out HS.out h0
      obtain ⟨hln, hlt⟩ := hli.next HC.out HS.out hp
      have HB := Lib.hid (fun k => best_piece HC.out HS.out hli.sub hp.mem hli.near hp.piece k)
      have HPN := Lib.hid (piecesOf_next HC.out HS.out hli hp)
      obtain ⟨hlow, hc0, hc64⟩ := hp.low_same HC.out HS.out hli
      have hlw := hp.low
      generalize pieceN cs s (lowN left) = c at *
      have hcl := sub_le hp.sub
      obtain ⟨d1, _, _⟩ := diff_add (a := left) (by omega) hp.sub
      obtain ⟨D, hD⟩ : ∃ D, diff left c = D := ⟨_, rfl⟩
      rw [hD] at d1 hln hlt HPN
      have HLN := Lib.hid hln
      have HPR : Hid (L = (pre ++ [c]) ++ piecesOf cs s D) := Lib.hid (by rw [hpre, HPN.out]; simp)
      have HCOL := Lib.hid hcol
      have HLEN : Hid ((ofNats pre).length ≤ 1000000000) := Lib.hid (by
        have := congrArg List.length hpre
        rw [List.length_append] at this
        rw [ofNats_len]; omega)
      have HRC := Lib.hid (HR.out.below hcol.below)
      have x0 : (0 : Int) < (left : Int) := by omega
      have x0n : 0 < left := by omega
      have e1 : bits .andNot .i64 (left : Int) ((left : Int) - 1) = ((lowN left : Nat) : Int) := by
        rw [show (left : Int) - 1 = ((left - 1 : Nat) : Int) by omega]; exact i64_andNot _ _ (by omega) (by omega)
      obtain ⟨LOW, hLOW⟩ : ∃ LOW, 2 ^ p = LOW := ⟨_, rfl⟩
      rw [hLOW] at HB hlw hlow
      rw [hlw] at e1
      have HBL : Hid (∀ k, bestTo cs left LOW k < 64) := Lib.hid (fun k => by have := sub_le (HB.out k).2.1; omega)
      have hBE := (HB.out left).2.2 hcl
      have HBE := Lib.hid hBE
      have LOW64 : LOW < 64 := by have := HBL.out 0; exact this
      have HSD : Hid ((left : Int) - (c : Int) = (D : Int)) := Lib.hid (by omega)
      clear hli hpre hp hln hlw hlow hcol hD hLOW HB hBE
      go_wp2_with fail
      go_loopw [7, 8] (fun x i wq => ∃ k : Nat, k ≤ left ∧ i = .int .i64 (k + 1 : Nat) ∧ x = .int .i64 (bestTo cs left LOW k : Nat) ∧ wq = wr) (fun _ i _ => left + 1 - (intOf i).toNat)
      case atStart => exact ⟨0, by omega, rfl, rfl, rfl⟩
      case round =>
        obtain ⟨k, hk, rfl, rfl, rfl⟩ := hrel
        have hb64 := HBL.out k
        obtain ⟨M, hM⟩ : ∃ M, M = k + 1 := ⟨_, rfl⟩
        by_cases hkl : k < left
        · obtain ⟨b, hb⟩ : ∃ b, bestTo cs left LOW k = b := ⟨_, rfl⟩
          have hbn := best_step hM hb
          rw [hb] at hb64 ⊢
          rw [← hM]
          have kM : (M : Int) ≤ (left : Int) := by omega
          have kM2 : M ≤ left := by omega
          have M64 : M < 64 := by omega
          have HM := Lib.hid hM
          clear hb hM
          rcases ht0 : subB M left with _ | _
          · skip
            have HN : Hid (bestTo cs left LOW M = b) := Lib.hid (by rw [hbn]; simp [ht0])
            have HT0 := Lib.hid ht0
            clear hbn ht0
            go_wp2_with fail
            refine (refWithin_any M left _ (by omega) (by omega)).mono ?_
            rintro e w' ⟨rfl, rfl⟩
            rw [HT0.out]
            go_wp2_with fail
            go_roundw
            case rel => exact ⟨M, kM2, by go_num, by rw [HN.out], by first | rfl | trivial⟩
            case measure => have := HM.out; simp [intOf]; omega
          · skip
            rcases ht1 : subB LOW M with _ | _
            · skip
              have HN : Hid (bestTo cs left LOW M = b) := Lib.hid (by rw [hbn]; simp [ht0, ht1])
              have HT0 := Lib.hid ht0
              have HT1 := Lib.hid ht1
              clear hbn ht0 ht1
              go_wp2_with fail
              refine (refWithin_any M left _ (by omega) (by omega)).mono ?_
              rintro e w' ⟨rfl, rfl⟩
              rw [HT0.out]
              go_wp2_with fail
              refine (refWithin_any LOW M _ (by omega) (by omega)).mono ?_
              rintro e w' ⟨rfl, rfl⟩
              rw [HT1.out]
              go_wp2_with fail
              go_roundw
              case rel => exact ⟨M, kM2, by go_num, by rw [HN.out], by first | rfl | trivial⟩
              case measure => have := HM.out; simp [intOf]; omega
            · skip
              rcases ht2 : subB b M with _ | _
              · skip
                have HN : Hid (bestTo cs left LOW M = b) := Lib.hid (by rw [hbn]; simp [ht0, ht1, ht2])
                have HT0 := Lib.hid ht0
                have HT1 := Lib.hid ht1
                have HT2 := Lib.hid ht2
                clear hbn ht0 ht1 ht2
                go_wp2_with fail
                refine (refWithin_any M left _ (by omega) (by omega)).mono ?_
                rintro e w' ⟨rfl, rfl⟩
                rw [HT0.out]
                go_wp2_with fail
                refine (refWithin_any LOW M _ (by omega) (by omega)).mono ?_
                rintro e w' ⟨rfl, rfl⟩
                rw [HT1.out]
                go_wp2_with fail
                refine (refWithin_any b M _ (by omega) (by omega)).mono ?_
                rintro e w' ⟨rfl, rfl⟩
                rw [HT2.out]
                go_wp2_with fail
                go_roundw
                case rel => exact ⟨M, kM2, by go_num, by rw [HN.out], by first | rfl | trivial⟩
                case measure => have := HM.out; simp [intOf]; omega
              · skip
                rcases ht3 : joinedB cs M with _ | _
                · skip
                  have HN : Hid (bestTo cs left LOW M = b) := Lib.hid (by rw [hbn]; simp [ht0, ht1, ht2, ht3])
                  have HT0 := Lib.hid ht0
                  have HT1 := Lib.hid ht1
                  have HT2 := Lib.hid ht2
                  have HT3 := Lib.hid ht3
                  clear hbn ht0 ht1 ht2 ht3
                  go_wp2_with fail
                  refine (refWithin_any M left _ (by omega) (by omega)).mono ?_
                  rintro e w' ⟨rfl, rfl⟩
                  rw [HT0.out]
                  go_wp2_with fail
                  refine (refWithin_any LOW M _ (by omega) (by omega)).mono ?_
                  rintro e w' ⟨rfl, rfl⟩
                  rw [HT1.out]
                  go_wp2_with fail
                  refine (refWithin_any b M _ (by omega) (by omega)).mono ?_
                  rintro e w' ⟨rfl, rfl⟩
                  rw [HT2.out]
                  go_wp2_with fail
                  refine (refJoined_any _ cs M _ HRC.out HC.out (by omega)).mono ?_
                  rintro e w' ⟨rfl, rfl⟩
                  rw [HT3.out]
                  go_wp2_with fail
                  go_roundw
                  case rel => exact ⟨M, kM2, by go_num, by rw [HN.out], by first | rfl | trivial⟩
                  case measure => have := HM.out; simp [intOf]; omega
                · skip
                  have HN : Hid (bestTo cs left LOW M = M) := Lib.hid (by rw [hbn]; simp [ht0, ht1, ht2, ht3])
                  have HT0 := Lib.hid ht0
                  have HT1 := Lib.hid ht1
                  have HT2 := Lib.hid ht2
                  have HT3 := Lib.hid ht3
                  clear hbn ht0 ht1 ht2 ht3
                  go_wp2_with fail
                  refine (refWithin_any M left _ (by omega) (by omega)).mono ?_
                  rintro e w' ⟨rfl, rfl⟩
                  rw [HT0.out]
                  go_wp2_with fail
                  refine (refWithin_any LOW M _ (by omega) (by omega)).mono ?_
                  rintro e w' ⟨rfl, rfl⟩
                  rw [HT1.out]
                  go_wp2_with fail
                  refine (refWithin_any b M _ (by omega) (by omega)).mono ?_
                  rintro e w' ⟨rfl, rfl⟩
                  rw [HT2.out]
                  go_wp2_with fail
                  refine (refJoined_any _ cs M _ HRC.out HC.out (by omega)).mono ?_
                  rintro e w' ⟨rfl, rfl⟩
                  rw [HT3.out]
                  go_wp2_with fail
                  go_roundw
                  case rel => exact ⟨M, kM2, by go_num, by rw [HN.out], by first | rfl | trivial⟩
                  case measure => have := HM.out; simp [intOf]; omega
        · have hkn : k = left := by omega
          have HK : Hid (bestTo cs left LOW k = c) := Lib.hid (by rw [hkn]; exact HBE.out)
          rw [HK.out]
          have kn : ¬ ((k + 1 : Nat) : Int) ≤ (left : Int) := by omega
          have kn2 : ¬ k + 1 ≤ left := by omega
          have HSN := Lib.hid (nats_snoc pre c)
          clear hkn
          go_wp2_with (at_builtin; refine append_int rfl _ _ rfl HCOL.out rfl _ rfl HLEN.out ?_; intro v' w' hcol' hne)
          go_roundw
          case rel => exact ⟨D, pre ++ [c], HLN.out, HPR.out, by rw [← HSD.out], by rw [HSN.out]; exact hcol'⟩
          case measure => simp [intOf]; omega
end Go.Proofs.YtppmgbjdbnedoalDoor

/- ply's reference: Codes, IsSpace, Space, Plain. -/
set_option linter.unusedVariables false
set_option linter.unusedSimpArgs false
namespace Go.Proofs.YtppmgbjdbnedoalDoor
open Go.RowKit Go.Shelf

set_option maxRecDepth 100000 in
set_option maxHeartbeats 1600000 in
theorem refCodes_any (v : Value) (xs : List Int) (w : World) (hr : Reads w v xs) :
    Calls Tryd.prog 18 #[v] w fun e w' => e = .returned (.bool (okB xs)) ∧ Below w.heap.size w w' := by
  have hr0 := hr
  obtain ⟨a, cap, rfl, h1, h2, hcell⟩ := hr.open
  have HR := Lib.hid hr0
  have h3 : xs.length ≤ 9223372036854775807 := by unfold maxLen at h2; omega
  clear h2 hr hr0
  by_cases hl : xs.length ≤ 6
  · obtain ⟨n, hn⟩ : ∃ n, xs.length = n := ⟨_, rfl⟩
    rw [hn] at h1 h3 hcell hl ⊢
    have HN := Lib.hid hn
    clear hn
    have hl' : (n : Int) ≤ 6 := by omega
    obtain ⟨N, hN⟩ : ∃ N, 2 ^ n = N := ⟨_, rfl⟩
    have hsh : ((2 : Int) ^ n) = (N : Int) := by rw [← hN]; push_cast; rfl
    have hN64 : N ≤ 64 := by rw [← hN]; exact Nat.pow_le_pow_right (n := 2) (by omega) hl
    go_enter Tryd.func18, Tryd.ntmps18
    go_wp2_with fail
    go_loopw [3] (fun i wr => ∃ k m : Nat, k ≤ n ∧ i = .int .i64 k ∧ (∀ j, j < k → setB n (gi xs j) = true) ∧ wr = w.drewN m) (fun i _ => n - (intOf i).toNat)
    case atStart => exact ⟨0, 0, by omega, rfl, fun j hj => by omega, rfl⟩
    case round =>
      obtain ⟨k, m, hk, rfl, hd, rfl⟩ := hrel
      have HD := Lib.hid hd
      clear hd
      by_cases hlt : k < n
      · obtain ⟨b, off, rfl, hb, hck⟩ := hcell k hlt
        have k0 : (0 : Int) ≤ (k : Int) := by omega
        have k1 : (k : Int) < (n : Int) := by omega
        clear hcell
        have hset : ∀ x, setB n x = (decide (0 ≤ x) && decide (x < (N : Int))) := fun x => by
          rw [Bool.eq_iff_iff, setB_iff, Bool.and_eq_true, decide_eq_true_eq, decide_eq_true_eq, ← hsh]
        generalize hg : gi xs k = g at *
        have HG := Lib.hid hg
        have HSET := Lib.hid hset
        clear hset hg
        by_cases hx : 0 ≤ g
        · have hx' : decide (g < 0) = false := by simp; omega
          by_cases hy : g < (N : Int)
          · have hy' : decide ((N : Int) ≤ g) = false := by simp; omega
            go_wp2_with fail
            refine wp_region_quiet_lit (by kernel_rfl) (by kernel_rfl) ?_
            repeat (go_big_quiet_step (fail))
            refine wpQuiet_nil ?_
            intro _ hw'
            obtain ⟨nq, hw''⟩ := hw'
            subst hw''
            go_wp2_with fail
            go_roundw
            case rel => exact ⟨k + 1, _, by omega, by go_num, fun j hj => by
              by_cases e : j = k
              · subst e; rw [HG.out, HSET.out, decide_eq_true hx, decide_eq_true hy]; rfl
              · exact HD.out j (by omega), by first | rfl | exact World.drewN_drewN ..⟩
            case measure => simp [intOf]; omega
          · have hy' : decide ((N : Int) ≤ g) = true := by simp; omega
            go_wp2_with fail
            refine wp_region_quiet_lit (by kernel_rfl) (by kernel_rfl) ?_
            repeat (go_big_quiet_step (fail))
            refine wpQuiet_nil ?_
            intro _ hw'
            obtain ⟨nq, hw''⟩ := hw'
            subst hw''
            go_wp2_with fail
            go_ret
            refine ⟨ret_bool ?_, by first | exact below_drewN _ _ | exact (below_drewN _ _).trans ((below_drewN _ _).mono (below_drewN w _).size)⟩
            symm
            rcases ho : okB xs with _ | _
            · rfl
            · unfold okB at ho
              rw [Bool.and_eq_true, HN.out] at ho
              have h9 := codesB_iff.1 ho.2 k (by rw [HN.out]; exact hlt)
              rw [HG.out, HSET.out, Bool.and_eq_true, decide_eq_true_eq, decide_eq_true_eq] at h9
              omega
        · have hx' : decide (g < 0) = true := by simp; omega
          go_wp2_with fail
          refine wp_region_quiet_lit (by kernel_rfl) (by kernel_rfl) ?_
          repeat (go_big_quiet_step (fail))
          refine wpQuiet_nil ?_
          intro _ hw'
          obtain ⟨nq, hw''⟩ := hw'
          subst hw''
          go_wp2_with fail
          go_ret
          refine ⟨ret_bool ?_, by first | exact below_drewN _ _ | exact (below_drewN _ _).trans ((below_drewN _ _).mono (below_drewN w _).size)⟩
          symm
          rcases ho : okB xs with _ | _
          · rfl
          · unfold okB at ho
            rw [Bool.and_eq_true, HN.out] at ho
            have h9 := codesB_iff.1 ho.2 k (by rw [HN.out]; exact hlt)
            rw [HG.out, HSET.out, Bool.and_eq_true, decide_eq_true_eq, decide_eq_true_eq] at h9
            omega
      · have hkn : k = n := by omega
        have HK := Lib.hid hkn
        clear hkn hcell
        have HC : Hid (codesB xs.length xs = true) := Lib.hid (codesB_iff.2 fun j hj => by rw [HN.out]; exact HD.out j (by rw [HK.out]; rw [HN.out] at hj; exact hj))
        by_cases h1n : 1 ≤ n
        · have h1' : (1 : Int) ≤ (n : Int) := by omega
          go_wp2_with fail
          go_ret
          refine ⟨ret_bool ?_, below_drewN _ _⟩
          unfold okB
          rw [HC.out, HN.out]
          simp [h1n, hl]
        · have h1' : ¬ (1 : Int) ≤ (n : Int) := by omega
          go_wp2_with fail
          go_ret
          refine ⟨ret_bool ?_, below_drewN _ _⟩
          unfold okB
          rw [HN.out]
          simp [h1n]
  · have hl' : decide ((xs.length : Int) ≤ 6) = false := by simp; omega
    have h0 : (0 : Int) < (xs.length : Int) := by omega
    have h0n : 0 < xs.length := by omega
    have h10 : decide ((1 : Int) ≤ (xs.length : Int)) = true := by simp; omega
    clear hcell
    go_enter Tryd.func18, Tryd.ntmps18
    go_wp2_with fail
    go_loopw [3] (fun i wr => i = .int .i64 0 ∧ wr = w) (fun i _ => 0)
    case atStart => exact ⟨rfl, rfl⟩
    case round =>
      obtain ⟨rfl, rfl⟩ := hrel
      go_wp2_with fail
      go_ret
      refine ⟨ret_bool ?_, Below.refl _ _⟩
      unfold okB
      simp [hl]

set_option maxRecDepth 100000 in
set_option maxHeartbeats 3200000 in
theorem refIsSpace_any (v : Value) (cs : List Nat) (w : World) (hr : Reads w v (ofNats cs)) (hc : Codes cs) :
    Calls Tryd.prog 19 #[v] w fun e w' => e = .returned (.bool (spaceB cs)) ∧ Below w.heap.size w w' := by
  have hr0 := hr
  obtain ⟨a, cap, rfl, h1, h2, hcell⟩ := hr.open
  have hl6 := hc.2.1
  have HC := Lib.hid (cell_64 hc)
  have hlen := ofNats_len cs
  rw [hlen] at h1 hcell ⊢
  obtain ⟨n, hn⟩ : ∃ n, cs.length = n := ⟨_, rfl⟩
  rw [hn] at h1 hcell hl6 ⊢
  have HN := Lib.hid hn
  clear h2 hr hr0 hc hlen hn
  go_enter Tryd.func19, Tryd.ntmps19
  go_wp2_with fail
  go_loopw [3] (fun i wr => ∃ k m : Nat, k ≤ n ∧ i = .int .i64 k ∧ (∀ p, p < k → (cell cs p).testBit p = true ∧ ∀ q, q < n → (cell cs p).testBit q = true → subB (cell cs q) (cell cs p) = true) ∧ wr = w.drewN m) (fun i _ => n - (intOf i).toNat)
  case atStart => exact ⟨0, 0, by omega, rfl, fun p hp => by omega, rfl⟩
  case round =>
    obtain ⟨k, m, hk, rfl, hdone, rfl⟩ := hrel
    have HD := Lib.hid hdone
    clear hdone
    by_cases hlt : k < n
    · have hcell0 := hcell
      obtain ⟨b, off, rfl, hb, hck⟩ := hcell k hlt
      rw [gi_nats] at hck
      have hc64 := HC.out k
      have k0 : (0 : Int) ≤ (k : Int) := by omega
      have k1 : (k : Int) < (n : Int) := by omega
      have HCELL := Lib.hid hcell
      clear hcell hcell0
      rcases hbit : (cell cs k).testBit k with _ | _
      · have HB := Lib.hid hbit
        clear hbit
        go_wp2_with fail
        refine (refHas_any (cell cs k) k _ hc64 (by omega)).mono ?_
        rintro e w' ⟨rfl, rfl⟩
        rw [HB.out]
        go_wp2_with fail
        go_ret
        refine ⟨ret_bool ?_, below_drewN _ _⟩
        symm
        rcases ho : spaceB cs with _ | _
        · rfl
        · have := (space_iff.1 ho k (by rw [HN.out]; exact hlt)).1
          rw [HB.out] at this; cases this
      · have HB := Lib.hid hbit
        clear hbit
        go_wp2_with fail
        refine (refHas_any (cell cs k) k _ hc64 (by omega)).mono ?_
        rintro e w' ⟨rfl, rfl⟩
        rw [HB.out]
        go_wp2_with fail
        go_loopw [4] (fun i wr => ∃ j m : Nat, j ≤ n ∧ i = .int .i64 j ∧ (∀ q, q < j → (cell cs k).testBit q = true → subB (cell cs q) (cell cs k) = true) ∧ wr = w.drewN m) (fun i _ => n - (intOf i).toNat)
        case atStart => exact ⟨0, _, by omega, rfl, fun p hp => by omega, rfl⟩
        case round =>
          obtain ⟨j, m2, hj, rfl, hd2, rfl⟩ := hrel
          have HD2 := Lib.hid hd2
          clear hd2
          by_cases hjn : j < n
          · obtain ⟨b2, off2, he, hb2, hcj⟩ := HCELL.out j hjn
            cases he
            rw [gi_nats] at hcj
            have hj64 := HC.out j
            have j0 : (0 : Int) ≤ (j : Int) := by omega
            have j1 : (j : Int) < (n : Int) := by omega
            have HA : ∀ b, (cell cs k).testBit j = b → Hid (∀ w, Calls Tryd.prog 35 #[.int .i64 (cell cs k), .int .i64 j] w fun e w' => e = .returned (.bool b) ∧ w = w') := fun b h => Lib.hid (fun w => by have := refHas_any (cell cs k) j w hc64 (by omega); rwa [h] at this)
            have HS : ∀ b, subB (cell cs j) (cell cs k) = b → Hid (∀ w, Calls Tryd.prog 27 #[.int .i64 (cell cs j), .int .i64 (cell cs k)] w fun e w' => e = .returned (.bool b) ∧ w = w') := fun b h => Lib.hid (fun w => by have := refWithin_any (cell cs j) (cell cs k) w hj64 hc64; rwa [h] at this)
            rcases hb1 : (cell cs k).testBit j with _ | _
            · replace HA := HA _ hb1
              have HB1 := Lib.hid hb1
              clear HS hb1
              go_wp2_with fail
              refine wp_region_quiet_lit (by kernel_rfl) (by kernel_rfl) ?_
              repeat (go_big_quiet_step (fail))
              quiet_step ((go_at_call 35; exact (HA.out _).mono (fun e w' h => ⟨h.1, _, h.2.symm⟩)))
              repeat (go_big_quiet_step (fail))
              refine wpQuiet_nil ?_
              intro _ hw'
              obtain ⟨nq, hw''⟩ := hw'
              subst hw''
              go_wp2_with fail
              go_roundw
              case rel => exact ⟨j + 1, _, by omega, by go_num, fun q hq hqb => by
                by_cases e : q = j
                · subst e; rw [HB1.out] at hqb; cases hqb
                · exact HD2.out q (by omega) hqb, by first | rfl | exact World.drewN_drewN ..⟩
              case measure => simp [intOf]; omega
            · replace HA := HA _ hb1
              have HB1 := Lib.hid hb1
              clear hb1
              rcases hs1 : subB (cell cs j) (cell cs k) with _ | _
              · replace HS := HS _ hs1
                have HS1 := Lib.hid hs1
                clear hs1
                go_wp2_with fail
                refine wp_region_quiet_lit (by kernel_rfl) (by kernel_rfl) ?_
                repeat (go_big_quiet_step (fail))
                quiet_step ((go_at_call 35; exact (HA.out _).mono (fun e w' h => ⟨h.1, _, h.2.symm⟩)))
                repeat (go_big_quiet_step (fail))
                quiet_step ((go_at_call 27; exact (HS.out _).mono (fun e w' h => ⟨h.1, _, h.2.symm⟩)))
                repeat (go_big_quiet_step (fail))
                refine wpQuiet_nil ?_
                intro _ hw'
                obtain ⟨nq, hw''⟩ := hw'
                subst hw''
                go_wp2_with fail
                go_ret
                refine ⟨ret_bool ?_, by first | exact below_drewN _ _ | exact (below_drewN _ _).trans ((below_drewN _ _).mono (below_drewN w _).size)⟩
                symm
                rcases ho : spaceB cs with _ | _
                · rfl
                · have := (space_iff.1 ho k (by rw [HN.out]; exact hlt)).2 j (by rw [HN.out]; exact hjn) HB1.out
                  rw [HS1.out] at this; cases this
              · replace HS := HS _ hs1
                have HS1 := Lib.hid hs1
                clear hs1
                go_wp2_with fail
                refine wp_region_quiet_lit (by kernel_rfl) (by kernel_rfl) ?_
                repeat (go_big_quiet_step (fail))
                quiet_step ((go_at_call 35; exact (HA.out _).mono (fun e w' h => ⟨h.1, _, h.2.symm⟩)))
                repeat (go_big_quiet_step (fail))
                quiet_step ((go_at_call 27; exact (HS.out _).mono (fun e w' h => ⟨h.1, _, h.2.symm⟩)))
                repeat (go_big_quiet_step (fail))
                refine wpQuiet_nil ?_
                intro _ hw'
                obtain ⟨nq, hw''⟩ := hw'
                subst hw''
                go_wp2_with fail
                go_roundw
                case rel => exact ⟨j + 1, _, by omega, by go_num, fun q hq hqb => by
                  by_cases e : q = j
                  · subst e; exact HS1.out
                  · exact HD2.out q (by omega) hqb, by first | rfl | exact World.drewN_drewN ..⟩
                case measure => simp [intOf]; omega
          · have hjn2 : j = n := by omega
            have HJ := Lib.hid hjn2
            clear hjn2
            go_wp2_with fail
            go_roundw
            case rel => exact ⟨k + 1, _, by omega, by go_num, fun p hp => by
              by_cases e : p = k
              · subst e; exact ⟨HB.out, fun q hq hqb => HD2.out q (by rw [HJ.out]; exact hq) hqb⟩
              · exact HD.out p (by omega), rfl⟩
            case measure => simp [intOf]; omega
    · have hkn : k = n := by omega
      have HK := Lib.hid hkn
      clear hkn hcell
      go_wp2_with fail
      go_ret
      refine ⟨ret_bool ?_, below_drewN _ _⟩
      symm
      exact space_iff.2 fun p hp => by
        rw [HN.out] at hp
        obtain ⟨h1, h2⟩ := HD.out p (by omega)
        exact ⟨h1, fun q hq hb => h2 q (by rw [← HN.out]; exact hq) hb⟩
set_option maxRecDepth 100000 in
theorem refSpace_any (v : Value) (xs : List Int) (w : World) (hr : Reads w v xs) :
    Calls Tryd.prog 7 #[v] w fun e w' => e = .returned (.bool (spL xs)) ∧ Below w.heap.size w w' := by
  have hr0 := hr
  obtain ⟨a, cap, rfl, _, _, _⟩ := hr.open
  clear hr
  rcases ho : okB xs with _ | _
  · have hsp : spL xs = false := by unfold spL; rw [ho]; rfl
    rw [hsp]
    have HO := Lib.hid ho
    clear ho hsp
    go_enter Tryd.func7, Tryd.ntmps7
    go_wp2_with fail
    refine (refCodes_any _ xs _ hr0).mono ?_
    rintro e w1 ⟨rfl, hb⟩
    rw [HO.out]
    go_wp2_with fail
    go_ret
    exact ⟨rfl, hb⟩
  · obtain ⟨hc, hx⟩ := ok_codes ho
    have hsp : spL xs = spaceB (natsOf xs) := by unfold spL; rw [ho, Bool.true_and]
    rw [hsp]
    have HO := Lib.hid ho
    have HX := Lib.hid hx
    clear ho hsp hx
    go_enter Tryd.func7, Tryd.ntmps7
    go_wp2_with fail
    refine (refCodes_any _ xs _ hr0).mono ?_
    rintro e w1 ⟨rfl, hb⟩
    rw [HO.out]
    have hr1 := hr0.below hb
    go_wp2_with fail
    refine (refIsSpace_any _ (natsOf xs) _ (by rw [← HX.out]; exact hr1) hc).mono ?_
    rintro e w2 ⟨rfl, hb2⟩
    go_wp2_with fail
    go_ret
    exact ⟨rfl, below_to hb hb.size hb2⟩

end Go.Proofs.YtppmgbjdbnedoalDoor

/- The helper list of the statements: a copy of at most seven numbers. -/
set_option linter.unusedVariables false
set_option linter.unusedSimpArgs false
namespace Go.Proofs.YtppmgbjdbnedoalDoor
open Go.RowKit

set_option maxRecDepth 100000 in
set_option maxHeartbeats 800000 in
theorem lawList_any (v : Value) (xs : List Int) (w : World) (hr : Reads w v xs) :
    Calls Tryd.prog 4 #[v] w fun e w' => ∃ v', e = .returned v' ∧ Col w w' v' (xs.take 7) := by
  obtain ⟨a, cap, rfl, h1, h2, h3⟩ := hr
  cases a with
  | none =>
    obtain rfl : xs = [] := by
      rcases h3 with h | ⟨b, off, h, _⟩
      · exact h
      · cases h
    go_enter Tryd.func4, Tryd.ntmps4
    go_wp2
    go_ret
    exact ⟨_, rfl, Col.nil w⟩
  | some ad =>
    have hcells : ∀ j u, ((xs.take 7).map (Value.int .i64))[j]? = some u → w.cell? (ad.add j) = some u := by
      intro j u hj
      rcases h3 with rfl | ⟨b', off, he, hS, hc⟩
      · simp at hj
      · cases he
        have hjl : j < (xs.take 7).length := by
          have := (List.getElem?_eq_some_iff.1 hj).1; simpa using this
        have hjl2 : j < xs.length := by simp at hjl; omega
        have hadd : (⟨b', off, none⟩ : Addr).add j = ⟨b', off + j, none⟩ := by unfold Addr.add; split <;> simp_all
        rw [hadd, hc j hjl2, gi_lt hjl2]
        have : ((xs.take 7).map (Value.int .i64))[j]? = some (.int .i64 xs[j]) := by simp at hjl; simp [List.getElem?_take, hjl]
        rw [this] at hj; exact hj
    obtain ⟨i0, hi, hz0, hz1, hz2⟩ := info_parts infoInt
    clear h3
    have hc2 : ∀ u ∈ (xs.take 7).map (Value.int .i64), u.oneCell' = true := by intro u hu; simp only [List.mem_map] at hu; obtain ⟨x, _, rfl⟩ := hu; rfl
    have h2' : cap ≤ 9223372036854775807 := by unfold maxLen at h2; omega
    have h3' : xs.length ≤ 9223372036854775807 := by omega
    have HM := Lib.hid h2
    clear h2
    by_cases hl : xs.length ≤ 7
    · have ht : (xs.take 7).length = xs.length := by simp [hl]
      have HT := Lib.hid ht
      clear ht
      have hl' : (xs.length : Int) ≤ 7 := by omega
      go_enter Tryd.func4, Tryd.ntmps4
      go_wp2_with (at_builtin; refine wpList_append_own _ rfl _ _ 22 rfl w.heap.size 3 i0 (.int .i64 0) 1 8 Tryd.underlying22 hi hz0 hz1 hz2 rfl (by decide) (.slice none 0 0) 0 [] rfl (World.ownsRow_nil _ _ _ _) ad xs.length cap ((xs.take 7).map (Value.int .i64)) rfl (by rw [List.length_map, HT.out]; try omega) hcells hc2 (by simp [maxLen]; omega) (by omega) (by simp) ?_; intro v' w1 hown' hgrow _)
      go_ret
      refine ⟨v', rfl, by rw [HT.out]; simpa only [Nat.zero_add, List.nil_append] using hown', ?_⟩
      exact (Below.refl _ _).grown hgrow (by simp) (fun k e => by simp [Value.ownBlock] at e)
    · have ht : (xs.take 7).length = 7 := by simp; omega
      have HT := Lib.hid ht
      clear ht
      have hl' : (7 : Int) ≤ (xs.length : Int) := by omega
      go_enter Tryd.func4, Tryd.ntmps4
      go_wp2_with (at_builtin; refine wpList_append_own _ rfl _ _ 22 rfl w.heap.size 3 i0 (.int .i64 0) 1 8 Tryd.underlying22 hi hz0 hz1 hz2 rfl (by decide) (.slice none 0 0) 0 [] rfl (World.ownsRow_nil _ _ _ _) ad 7 cap ((xs.take 7).map (Value.int .i64)) rfl (by rw [List.length_map, HT.out]; try omega) hcells hc2 (by simp [maxLen]) (by omega) (by simp) ?_; intro v' w1 hown' hgrow _)
      go_ret
      refine ⟨v', rfl, by rw [HT.out]; simpa only [Nat.zero_add, List.nil_append] using hown', ?_⟩
      exact (Below.refl _ _).grown hgrow (by simp) (fun k e => by simp [Value.ownBlock] at e)
end Go.Proofs.YtppmgbjdbnedoalDoor

/- ply: the number of the chains that end at a point. -/
set_option linter.unusedVariables false
set_option linter.unusedSimpArgs false
namespace Go.Proofs.YtppmgbjdbnedoalDoor
open Go.RowKit Go.Shelf
attribute [local go_sem] Oper.semAt_some

/-! ### plain: a sum over the points of a set -/
theorem sumTo_list (h : Nat → Int) : ∀ n, sumTo h n = ((List.range n).map h).sum
  | 0 => rfl
  | n + 1 => by unfold sumTo; rw [sumTo_list h n, List.range_succ, List.map_append, List.sum_append]; simp
theorem sumTo_far {h : Nat → Int} {n : Nat} : ∀ d, (∀ i, n ≤ i → h i = 0) → sumTo h (n + d) = sumTo h n
  | 0, _ => rfl
  | d + 1, hz => by
    show sumTo h (n + d) + h (n + d) = sumTo h n
    rw [sumTo_far d hz, hz _ (by omega)]; omega
theorem filter_sum (P : Nat → Bool) (h : Nat → Int) : ∀ l : List Nat, ((l.filter P).map h).sum = (l.map fun q => if P q = true then h q else 0).sum
  | [] => rfl
  | a :: l => by
    by_cases hp : P a = true
    · rw [List.filter_cons_of_pos hp]; simp [hp, filter_sum P h l]
    · rw [List.filter_cons_of_neg hp]; simp [hp, filter_sum P h l]
theorem sumTo_bits {S n : Nat} (hn : n ≤ 6) (hS : S < 2 ^ n) (h : Nat → Int) : sumTo (fun q => if S.testBit q = true then h q else 0) n = ((bitsOf S).map h).sum := by
  unfold bitsOf
  rw [filter_sum, ← sumTo_list, show 6 = n + (6 - n) by omega]
  exact (sumTo_far _ (fun i hi => by rw [bit_big hS hi]; simp)).symm

def dnV (cs : List Nat) (p : Nat) : Int := dnF cs 64 p
theorem dnV_step {cs : List Nat} (hs : spaceB cs = true) (hp : plainB cs = true) (hc : Codes cs) {p : Nat} (hpn : p < cs.length) : dnV cs p = 1 - ((bitsOf (diff (cell cs p) (2 ^ p))).map (dnV cs)).sum := by
  have h1 := dn_stable hs hp 64 p hpn (cell_64 hc p)
  unfold dnV
  rw [← h1]
  show 1 - sumTo (fun q => if ltP cs q p = true then dnF cs 64 q else 0) cs.length = _
  congr 1
  rw [← sumTo_bits hc.2.1 (diff_lt (hc.2.2 p))]
  refine sumTo_same _ fun q _ => ?_
  have : ltP cs q p = (diff (cell cs p) (2 ^ p)).testBit q := by
    rw [Bool.eq_iff_iff, without_bit]
    unfold ltP
    rw [Bool.and_eq_true, decide_eq_true_eq]
    exact And.comm
  rw [this]
theorem wrap_sub (a b : Int) : wrap64 (wrap64 a - wrap64 b) = wrap64 (a - b) := by unfold wrap64; omega
theorem wrap_add (a b : Int) : wrap64 (wrap64 a + wrap64 b) = wrap64 (a + b) := by unfold wrap64; omega

/-! ### the walk -/
def intKey (n : Int) : Value := .int .i64 n
theorem findNow_int (q : IntKind) (a : Int) : ∀ (es : List MapEntry) (ks : List Int) (i : Nat), es.map (·.key) = ks.map (Value.int q) → Instr.findNow (.int q) (.int q a) es i = some (findSpec a ks es i)
  | [], [], _, _ => rfl
  | e :: es, k :: ks, i, h => by
    simp only [List.map_cons, List.cons.injEq] at h
    obtain ⟨h1, h2⟩ := h
    have ih := findNow_int q a es ks (i + 1) h2
    by_cases hk : a = k
    · subst hk; simp [Instr.findNow, Instr.sameNow, h1, findSpec]
    · have hk2 : (a == k) = false := by simpa using hk
      simp [Instr.findNow, Instr.sameNow, h1, findSpec, hk, hk2, ih]
  | [], k :: ks, _, h => by simp at h
  | e :: es, [], _, h => by simp at h
theorem key_int : KeyOK 3 intKey where
  check := fun a em w => by kernel_rfl
  find := fun a es ks w h => by
    unfold Instr.findKey
    rw [Sem.run_bind, run_underlying Tryd.underlying3]
    simp only [Result.andThen_ok]
    rw [show Instr.findNow (.int .i64) (intKey a) es 0 = some (findSpec a ks es 0) from findNow_int .i64 a es ks 0 h]
    rfl

/-- all but the map's block is as it was -/
structure KeepM (bm : Nat) (W W' : World) : Prop where
  os : W'.os = W.os
  tape : W'.tape = W.tape
  output : W'.output = W.output
  size : W.heap.size ≤ W'.heap.size
  block : ∀ k, k < W.heap.size → k ≠ bm → W'.heap[k]? = W.heap[k]?
theorem KeepM.refl (bm : Nat) (W : World) : KeepM bm W W := ⟨rfl, rfl, rfl, Nat.le_refl _, fun _ _ _ => rfl⟩
theorem KeepM.trans {bm : Nat} {A B C : World} (h : KeepM bm A B) (k : KeepM bm B C) : KeepM bm A C := ⟨k.os.trans h.os, k.tape.trans h.tape, k.output.trans h.output, Nat.le_trans h.size k.size, fun i hi hne => (k.block i (Nat.lt_of_lt_of_le hi h.size) hne).trans (h.block i hi hne)⟩
theorem KeepM.of_below {bm : Nat} {A B : World} (h : Below A.heap.size A B) : KeepM bm A B := ⟨h.os, h.tape, h.output, h.size, fun k hk _ => h.block k hk⟩
theorem KeepM.of_grown {bm : Nat} {A B : World} (h : A.grownBy B (some bm)) : KeepM bm A B := ⟨h.os, h.tape, h.output, h.size, fun k hk hne => h.block k hk (fun e => hne (Option.some.inj e))⟩
theorem KeepM.below {bm B : Nat} {W W' : World} (h : KeepM bm W W') (hB : B ≤ bm) (hW : B ≤ W.heap.size) : Below B W W' := ⟨h.os, h.tape, h.output, h.size, fun k hk => h.block k (by omega) (by omega)⟩

structure CntW (cs : List Nat) (bm Bk Bx Bf : Nat) (W : World) (kvs : List (Int × Value)) : Prop where
  k : W.heap[Bk]? = some (.cells #[.map (some bm)] 63)
  m : MapIs intKey W bm kvs
  nd : (kvs.map (·.1)).Nodup
  vals : ∀ x ∈ kvs, ∃ q : Nat, q < cs.length ∧ x = ((q : Int), .int .i64 (wrap64 (dnV cs q)))
  x : SpF W Bx cs.length (cell cs)
  f : W.heap[Bf]? = some (.cells #[.func (.func 40) #[] #[.pointer (some ⟨Bk, 0, none⟩), .pointer (some ⟨Bx, 0, none⟩), .pointer (some ⟨Bf, 0, none⟩)]] 64)
  tab : Tab W
theorem CntW.to {cs : List Nat} {bm Bk Bx Bf : Nat} {W W' : World} {kvs : List (Int × Value)} (h : CntW cs bm Bk Bx Bf W kvs) (hc : ∀ (k : Nat) (c : Array Value) (t : TypeId) (fr : Nat × Nat), W.heap[k]? = some (.cells c t fr) → W'.heap[k]? = some (.cells c t fr)) (hm : W'.heap[bm]? = W.heap[bm]?) (hg : W'.heap[1]? = W.heap[1]?) : CntW cs bm Bk Bx Bf W' kvs :=
  ⟨hc _ _ _ _ h.k, h.m.of_block hm, h.nd, h.vals, hc _ _ _ _ h.x, hc _ _ _ _ h.f, h.tab.block hg⟩
theorem CntW.below {cs : List Nat} {bm Bk Bx Bf : Nat} {W W' : World} {kvs : List (Int × Value)} (h : CntW cs bm Bk Bx Bf W kvs) (hb : Below W.heap.size W W') : CntW cs bm Bk Bx Bf W' kvs := h.to (fun k c t fr hk => (hb.block k (heap_lt hk)).trans hk) (hb.block _ h.m.lt) (hb.block _ h.tab.lt)
theorem CntW.ne {cs : List Nat} {bm Bk Bx Bf : Nat} {W : World} {kvs : List (Int × Value)} (h : CntW cs bm Bk Bx Bf W kvs) {k : Nat} {c : Array Value} {t : TypeId} {fr : Nat × Nat} (hk : W.heap[k]? = some (.cells c t fr)) : k ≠ bm := fun e => by
  obtain ⟨es, clock, h1, _⟩ := h.m
  rw [e, h1] at hk; cases hk
theorem CntW.setCell {cs : List Nat} {bm Bk Bx Bf : Nat} {W : World} {kvs : List (Int × Value)} (h : CntW cs bm Bk Bx Bf W kvs) {b : Nat} (h1 : b ≠ bm) (h2 : b ≠ Bk) (h3 : b ≠ Bx) (h4 : b ≠ Bf) (h5 : b ≠ 1) (v : Value) : CntW cs bm Bk Bx Bf (W.setCell ⟨b, 0, none⟩ v) kvs :=
  ⟨set_other h.k (Ne.symm h2), h.m.of_block (heap_setCell_other _ _ _ _ (Ne.symm h1)), h.nd, h.vals, h.x.other (Ne.symm h3), set_other h.f (Ne.symm h4), h.tab.block (heap_setCell_other _ _ _ _ (Ne.symm h5))⟩
/-- one entry more -/
theorem CntW.add {cs : List Nat} {bm Bk Bx Bf : Nat} {W W' : World} {kvs : List (Int × Value)} (h : CntW cs bm Bk Bx Bf W kvs) (hg : W.grownBy W' (some bm)) {p : Nat} (hp : p < cs.length) (hno : (p : Int) ∉ kvs.map (·.1)) (hm : MapIs intKey W' bm (kvs ++ [((p : Int), .int .i64 (wrap64 (dnV cs p)))])) (hng : 1 ≠ bm) :
    CntW cs bm Bk Bx Bf W' (kvs ++ [((p : Int), .int .i64 (wrap64 (dnV cs p)))]) := by
  have old : ∀ {k : Nat} {c : Array Value} {t : TypeId} {fr : Nat × Nat}, W.heap[k]? = some (.cells c t fr) → W'.heap[k]? = some (.cells c t fr) := fun {k c t fr} hk => (hg.block k (heap_lt hk) (fun e => h.ne hk (Option.some.inj e))).trans hk
  refine ⟨old h.k, hm, ?_, fun x hx => ?_, old h.x, old h.f, h.tab.block (hg.block _ h.tab.lt (fun e => hng (Option.some.inj e)))⟩
  · rw [List.map_append, List.nodup_append]
    exact ⟨h.nd, by simp, fun a ha b hb => by simp at hb; subst hb; rintro rfl; exact hno ha⟩
  · rcases List.mem_append.1 hx with hx | hx
    · exact h.vals x hx
    · exact ⟨p, hp, List.mem_singleton.1 hx⟩

/-- what keys have come belong to points of smaller cells -/
def NewKeys (cs : List Nat) (kvs kvs' : List (Int × Value)) (b : Nat) : Prop := ∀ a ∈ kvs'.map (·.1), a ∈ kvs.map (·.1) ∨ ∃ q : Nat, a = (q : Int) ∧ cell cs q < b
theorem NewKeys.refl (cs : List Nat) (kvs : List (Int × Value)) (b : Nat) : NewKeys cs kvs kvs b := fun a h => .inl h
theorem NewKeys.trans {cs : List Nat} {k1 k2 k3 : List (Int × Value)} {b c : Nat} (h : NewKeys cs k1 k2 b) (k : NewKeys cs k2 k3 c) (hcb : c ≤ b) : NewKeys cs k1 k3 b := fun a ha => by
  rcases k a ha with h1 | ⟨q, h1, h2⟩
  · exact h a h1
  · exact .inr ⟨q, h1, by omega⟩
set_option maxRecDepth 100000 in
set_option maxHeartbeats 3200000 in
theorem count_any (cs : List Nat) (hs : spaceB cs = true) (hp : plainB cs = true) (hc : Codes cs) (bm Bk Bx Bf : Nat) (hng : 1 ≠ bm) : ∀ (k p : Nat) (W : World) (kvs : List (Int × Value)), cell cs p < k → p < cs.length → CntW cs bm Bk Bx Bf W kvs →
    Calls Tryd.prog 40 #[.int .i64 p, .pointer (some ⟨Bk, 0, none⟩), .pointer (some ⟨Bx, 0, none⟩), .pointer (some ⟨Bf, 0, none⟩)] W fun e W' => e = .returned (.int .i64 (wrap64 (dnV cs p))) ∧ (∃ kvs', CntW cs bm Bk Bx Bf W' kvs' ∧ NewKeys cs kvs kvs' (cell cs p + 1)) ∧ KeepM bm W W' := by
  intro k
  induction k with
  | zero => intro p W kvs h; omega
  | succ k ih =>
    intro p W kvs hk hpn hcw
    have hn6 := hc.2.1
    have c0 := cell_of hcw.k (j := 0) rfl
    by_cases hin : (p : Int) ∈ kvs.map (·.1)
    · have hv : ((p : Int), Value.int .i64 (wrap64 (dnV cs p))) ∈ kvs := by
        obtain ⟨x, hx, he⟩ := List.mem_map.1 hin
        obtain ⟨q, hq, rfl⟩ := hcw.vals x hx
        have he' : (q : Int) = (p : Int) := he
        have : q = p := by omega
        subst this; exact hx
      have HV := Lib.hid hv
      have HIN := Lib.hid hin
      have HC := Lib.hid hcw
      clear hv hin hcw hs hp ih
      refine (callsIn_wide (n := 20)).1 ?_
      refine callsIn_of_wp_marks Tryd.func40 rfl trivial ?_ rfl
      simp only [Tryd.ntmps40, List.size_toArray, List.length_cons, List.length_nil, Nat.reduceAdd, Nat.reduceSub, Array.replicate_succ, Array.replicate_zero, List.push_toArray, List.append_toArray, List.nil_append, List.cons_append]
      gi_wp2_with (gi_at_lookup; refine map_lookup_yes_in rfl _ _ _ rfl key_int Tryd.underlying63 rfl HC.out.m (p : Int) _ rfl HC.out.nd HV.out ?_)
      refine leave_marks (B := W.heap.size) [] W.heap.size _ trivial fun w' hs => ?_
      refine ⟨_, results_tmp rfl _ _ _, rfl, ⟨kvs, HC.out.below hs.below, NewKeys.refl _ _ _⟩, KeepM.of_below hs.below⟩
    · have HIN := Lib.hid hin
      have hstep := dnV_step hs hp hc hpn
      have hpn6 : p < 6 := by omega
      have h64 := cell_64 hc p
      have hd64 : diff (cell cs p) (2 ^ p) < 64 := diff_lt (k := 6) h64
      have hpts : ∀ x, (diff (cell cs p) (2 ^ p)).testBit x = true → x < cs.length ∧ cell cs x < k := fun x hx => by
        obtain ⟨h1, h2⟩ := (without_bit _ _ _).1 hx
        have hxn := set_lt (hc.2.2 p) h1
        have hl := lt_less hs hp hxn hpn (by unfold ltP; rw [Bool.and_eq_true, decide_eq_true_eq]; exact ⟨h2, h1⟩)
        exact ⟨hxn, by omega⟩
      have hptl : ∀ x, (diff (cell cs p) (2 ^ p)).testBit x = true → cell cs x + 1 ≤ cell cs p := fun x hx => by
        obtain ⟨h1, h2⟩ := (without_bit _ _ _).1 hx
        exact lt_less hs hp (set_lt (hc.2.2 p) h1) hpn (by unfold ltP; rw [Bool.and_eq_true, decide_eq_true_eq]; exact ⟨h2, h1⟩)
      have HPTL := Lib.hid hptl
      have HSTEP := Lib.hid hstep
      have HPTS := Lib.hid hpts
      have HC := Lib.hid hcw
      have hbm : bm < W.heap.size := hcw.m.lt
      have hsh := shl_num p hpn6
      have hpw := pow_lt64 hpn6
      have hz : (zeroValue 3).run Tryd.prog W = .ok (.int .i64 0) W := by kernel_rfl
      have HZ := Lib.hid hz
      have IH := Lib.hid ih
      have hdf : bits .andNot .u64 (cell cs p : Int) ((2 : Int) ^ p) = ((diff (cell cs p) (2 ^ p) : Nat) : Int) := by
        have := u64_andNot (cell cs p) (2 ^ p) (by omega) (by omega)
        rwa [pow_int] at this
      clear hin hcw hs hp ih hstep hpts hptl hc hz
      refine (callsIn_wide (n := 20)).1 ?_
      refine callsIn_of_wp_marks Tryd.func40 rfl trivial ?_ rfl
      simp only [Tryd.ntmps40, List.size_toArray, List.length_cons, List.length_nil, Nat.reduceAdd, Nat.reduceSub, Array.replicate_succ, Array.replicate_zero, List.push_toArray, List.append_toArray, List.nil_append, List.cons_append]
      gi_wp2_with (gi_at_lookup; refine map_lookup_no_in rfl _ _ _ rfl key_int Tryd.underlying63 HZ.out rfl HC.out.m (p : Int) rfl HIN.out ?_)
      have hal : Below W.heap.size W (W.alloc (.cells #[.int .i64 1] 3)) := (Below.refl _ _).alloc (Nat.le_refl _) _
      have s8 := heap_alloc_new W (.cells #[.int .i64 1] 3)
      have hc1 := HC.out.below hal
      have hsz1 : (W.alloc (.cells #[.int .i64 1] 3)).heap.size = W.heap.size + 1 := by simp
      generalize hW1 : World.alloc W _ = W1 at *
      clear hW1
      have q1 := hc1.x.cell (p := p) hpn6
      have p0 : (0 : Int) ≤ (p : Int) := by omega
      have p6 : (p : Int) < 6 := by omega
      have HAL := Lib.hid hal
      have HC1 := Lib.hid hc1
      have HS8 := Lib.hid s8
      clear hal hc1 s8 c0
      refine region_then 7 rfl rfl rfl (by kernel_rfl) (by kernel_rfl) (by kernel_rfl) (by kernel_rfl) (by kernel_rfl) (by kernel_rfl) ?_
      dsimp only [List.dropLast]
      repeat (gi_big_quiet_step (fail))
      refine wpQuietIn_nil ?_
      intro _ hw'
      obtain ⟨nq, hw''⟩ := hw'
      subst hw''
      have hdr := below_drewN W1 nq
      have hc2 := HC1.out.below hdr
      have s8 := (heap_drewN W1 nq _).trans HS8.out
      have hb2 := below_to HAL.out HAL.out.size hdr
      have hsz2 := size_drewN W1 nq
      rw [hsz1] at hsz2
      generalize hW2 : W1.drewN nq = W2 at *
      clear hW2 hdr q1 HAL HC1 HS8 hsz1
      go_simp
      refine ⟨trivial, (callsIn_wide.2 (points_any (diff (cell cs p) (2 ^ p)) _)).mono ?_⟩
      rintro e w2 ⟨rfl, rfl⟩
      have hal : Below W2.heap.size W2 (W2.alloc (.cells #[.int .u64 (diff (cell cs p) (2 ^ p) : Nat)] 34)) := (Below.refl _ _).alloc (Nat.le_refl _) _
      have hBs := heap_alloc_new W2 (.cells #[.int .u64 (diff (cell cs p) (2 ^ p) : Nat)] 34)
      have hc3 := hc2.below hal
      have t8 := (hal.block _ (heap_lt s8)).trans s8
      have hb3 := below_to hb2 hb2.size hal
      have hsz3 : (W2.alloc (.cells #[.int .u64 (diff (cell cs p) (2 ^ p) : Nat)] 34)).heap.size = W.heap.size + 2 := by simp [hsz2]
      rw [hsz2] at hBs ⊢
      generalize hW3 : World.alloc W2 _ = W3 at *
      clear hW3 hal hsz2 hc2 s8 hb2
      gi_wp2_with fail
      have lk := heap_lt HC.out.k
      have lx := HC.out.x.lt
      have lf := heap_lt HC.out.f
      have lt := HC.out.tab.lt
      refine range_pts (gf := 33) (Bs := W.heap.size + 1) (s := diff (cell cs p) (2 ^ p)) rfl (enters_of Tryd.func33 (by kernel_rfl) rfl)
        (points_given (diff (cell cs p) (2 ^ p)) (W.heap.size + 1) hd64 19 (by omega) W3 (by omega)) hBs rfl
        (fun pre V => (∃ kvs', CntW cs bm Bk Bx Bf V kvs' ∧ NewKeys cs kvs kvs' (cell cs p)) ∧ V.heap[W.heap.size]? = some (.cells #[.int .i64 (wrap64 (1 - (pre.map (dnV cs)).sum))] 3) ∧ KeepM bm W V ∧ W.heap.size + 2 ≤ V.heap.size)
        (fun c pre W => False) ?a1 ?hI (fun c s W W' row h _ _ => h) ?hIB (fun pre W h => h.1.elim fun _ h => h.1.tab) ⟨⟨_, hc3, NewKeys.refl _ _ _⟩, by rw [show wrap64 (1 - (([] : List Nat).map (dnV cs)).sum) = 1 by simp [wrap64]]; exact t8, KeepM.of_below hb3, by omega⟩ ?assign ?body ?done ?stop
      case assign =>
        intro l x W K hK
        gi_wp2
        exact hK
      case hI =>
        rintro s V V' row ⟨⟨kvs', h1, hnk⟩, h2, h3, h4⟩ hg hr
        refine ⟨⟨kvs', h1.to (fun k c t fr hk2 => own_cells hg hr hk2) (hg.block _ h1.m.lt (fun e => by have := (hr _ e.symm).1; omega)) (hg.block _ h1.tab.lt (fun e => by have := (hr _ e.symm).1; omega)), hnk⟩, own_block hg hr (by omega) h2, ⟨hg.os.trans h3.os, hg.tape.trans h3.tape, hg.output.trans h3.output, Nat.le_trans h3.size hg.size, fun k hk2 hne => ?_⟩, Nat.le_trans h4 hg.size⟩
        exact (hg.block k (Nat.lt_of_lt_of_le hk2 h3.size) (fun e => by have := (hr _ e.symm).1; omega)).trans (h3.block k hk2 hne)
      case hIB =>
        rintro s V v ⟨⟨kvs', h1, hnk⟩, h2, h3, h4⟩
        refine ⟨⟨kvs', h1.setCell (by omega) (by omega) (by omega) (by omega) (by omega) v, hnk⟩, set_other h2 (by omega), ⟨h3.os, h3.tape, h3.output, by simpa using h3.size, fun k hk2 hne => ?_⟩, by simpa using h4⟩
        exact (heap_setCell_other _ _ _ _ (by show k ≠ W.heap.size + 1; omega)).trans (h3.block k hk2 hne)
      case body =>
        rintro l pre x V hl ⟨⟨kvs', h1, hnk⟩, h2, h3, h4⟩ hpx
        obtain ⟨hxb, hx6⟩ := pre_bit hd64 hpx
        obtain ⟨hxn, hxk⟩ := HPTS.out x hxb
        have HXP : Hid (cell cs x + 1 ≤ cell cs p) := Lib.hid (HPTL.out x hxb)
        have hsum : wrap64 (wrap64 (1 - (pre.map (dnV cs)).sum) - wrap64 (dnV cs x)) = wrap64 (1 - ((pre ++ [x]).map (dnV cs)).sum) := by
          rw [wrap_sub, List.map_append, List.sum_append]
          congr 1
          simp only [List.map_cons, List.map_nil, List.sum_cons, List.sum_nil]
          omega
        have HSUM := Lib.hid hsum
        clear hsum
        gi_wp2_with fail
        refine region_thenC (C := fun V' => (∃ kv, CntW cs bm Bk Bx Bf V' kv ∧ NewKeys cs kvs kv (cell cs p)) ∧ KeepM bm V V') 5 rfl rfl rfl (by kernel_rfl) (by kernel_rfl) (by kernel_rfl) (by kernel_rfl) (by kernel_rfl) (by kernel_rfl) ⟨⟨_, h1.below (Below.refl _ _).drew, hnk⟩, KeepM.of_below (Below.refl _ _).drew⟩ ?_
        dsimp only [List.dropLast]
        have w8 : ∀ V', KeepM bm V V' → V'.heap[W.heap.size]? = some (.cells #[.int .i64 (wrap64 (1 - (pre.map (dnV cs)).sum))] 3) := fun V' hk => (hk.block _ (by omega) (by omega)).trans h2
        refine quiet_value (.int .i64 (wrap64 (1 - (pre.map (dnV cs)).sum))) rfl (fun w => rfl) (fun V' hC => ?_) ?_
        · have c := cell_of (w8 V' hC.2) (j := 0) rfl
          clear w8 hC
          go_simp
        dsimp only [Act.put, List.setIfInBounds_toArray, List.set_cons_zero, List.set_cons_succ]
        refine quiet_value (.func (.func 40) #[] #[.pointer (some ⟨Bk, 0, none⟩), .pointer (some ⟨Bx, 0, none⟩), .pointer (some ⟨Bf, 0, none⟩)]) rfl (fun w => rfl) (fun V' hC => ?_) ?_
        · obtain ⟨kv, hq, hqk⟩ := hC.1
          have c := cell_of hq.f (j := 0) rfl
          clear w8 hC hq
          go_simp
        dsimp only [Act.put, List.setIfInBounds_toArray, List.set_cons_zero, List.set_cons_succ]
        refine quiet_value (.int .i64 x) rfl (fun w => rfl) (fun V' hC => ?_) ?_
        · clear w8 hC
          go_simp
        dsimp only [Act.put, List.setIfInBounds_toArray, List.set_cons_zero, List.set_cons_succ]
        refine quiet_call (.int .i64 (wrap64 (dnV cs x))) 40 #[.int .i64 x, .pointer (some ⟨Bk, 0, none⟩), .pointer (some ⟨Bx, 0, none⟩), .pointer (some ⟨Bf, 0, none⟩)] rfl (fun _ => trivial) (fun h => by simp [Fence.wide, Fence.inRound] at h) (fun V' hC => ?_) (fun V' hC => ?_) ?_
        · clear w8 hC
          go_simp
        · obtain ⟨kv, hq, hqk⟩ := hC.1
          exact (callsIn_wide.2 (IH.out x V' kv hxk hxn hq)).mono fun e V'' h => ⟨h.1, ⟨h.2.1.choose, h.2.1.choose_spec.1, hqk.trans h.2.1.choose_spec.2 (HXP.out)⟩, hC.2.trans h.2.2⟩
        dsimp only [Act.put, List.setIfInBounds_toArray, List.set_cons_zero, List.set_cons_succ]
        refine quiet_value (.int .i64 (wrap64 (wrap64 (1 - (pre.map (dnV cs)).sum) - wrap64 (dnV cs x)))) rfl (fun w => rfl) (fun V' hC => ?_) ?_
        · clear w8 hC
          go_simp
          rw [IntKind.wrap_i64]; unfold wrap64; rfl
        dsimp only [Act.put, List.setIfInBounds_toArray, List.set_cons_zero, List.set_cons_succ]
        refine wpQuietIn_nil fun V' hC => ?_
        have c8 := w8 V' hC.2
        obtain ⟨kv, hq, hqk⟩ := hC.1
        have hkk := hC.2
        have c := cell_of c8 (j := 0) rfl
        have f8 := free_of c8 0
        rw [HSUM.out]
        have C8 := Lib.hid c8
        have HQ := Lib.hid hq
        clear w8 hC hq c8
        go_simp
        have e : wrap64 (1 - ((pre.map (dnV cs)).sum + dnV cs x)) = wrap64 (1 - ((pre ++ [x]).map (dnV cs)).sum) := by simp
        have hlt1 : W.heap.size + 1 < V.heap.size := by omega
        refine ⟨KeepsFrom.trans ⟨hkk.size, fun k o hB hk2 _ => (hkk.block k (heap_lt hk2) (by omega)).trans hk2⟩ (keeps_set _ _ _ _ _), SameAt.setCell (hkk.block _ hlt1 (by omega)) (by omega) _, ⟨kv, HQ.out.setCell (by omega) (by omega) (by omega) (by omega) (by omega) _, hqk⟩, ?_, ?_, ?_⟩
        · rw [← e]; exact set_same C8.out
        · have hk3 := h3.trans hkk
          refine ⟨hk3.os, hk3.tape, hk3.output, by simpa using hk3.size, fun k hk2 hne => ?_⟩
          exact (heap_setCell_other _ _ _ _ (by show k ≠ W.heap.size; omega)).trans (hk3.block k hk2 hne)
        · have := hkk.size
          simp; omega
      case done =>
        rintro D V hD ⟨⟨kvs', h1, hnk⟩, h2, h3, h4⟩ hK
        have hno : (p : Int) ∉ kvs'.map (·.1) := fun h => by
          rcases hnk _ h with h | ⟨q, h, hq⟩
          · exact HIN.out h
          · have : q = p := by omega
            subst this; omega
        rw [← HSTEP.out] at h2
        have c := cell_of h2 (j := 0) rfl
        have ck := cell_of h1.k (j := 0) rfl
        have HNO := Lib.hid hno
        have H1 := Lib.hid h1
        have H3 := Lib.hid h3
        clear h1 h2 h3 hno
        gi_wp2_with (first
          | (gi_at_mapUpdate; refine map_update_new_in rfl _ _ _ rfl key_int Tryd.underlying63 rfl H1.out.m (p : Int) (.int .i64 (wrap64 (dnV cs p))) rfl rfl HNO.out ?_; intro V2 hm2 hg2; have H2 := Lib.hid (H1.out.add hg2 hpn HNO.out hm2 hng); have ck2 := cell_of H2.out.k (j := 0) rfl)
          | (gi_at_lookup; refine map_lookup_yes_in rfl _ _ _ rfl key_int Tryd.underlying63 rfl H2.out.m (p : Int) (.int .i64 (wrap64 (dnV cs p))) rfl H2.out.nd (by simp) ?_))
        have HK2 : V2.heap[D]? = _ := (hg2.block _ (heap_lt hK) (fun e => by have h0 := Option.some.inj e; subst h0; have := HC.out.m.lt; omega)).trans hK
        refine leave_marks (B := W.heap.size) _ (D+1) V2 (Marks.add (U := W.heap.size) (ds := []) trivial (by omega) (by omega) HK2) fun w' hs => ?_
        have hk3 := H3.out.trans (KeepM.of_grown hg2)
        have hsm : KeepM bm W w' := ⟨hs.below.os.trans hk3.os, hs.below.tape.trans hk3.tape, hs.below.output.trans hk3.output, Nat.le_trans hk3.size hs.below.size, fun k hk2 hne => (hs.below.block k hk2).trans (hk3.block k hk2 hne)⟩
        refine ⟨_, results_tmp rfl _ _ _, rfl, ⟨_, H2.out.to hs.keep (hs.below.block _ HC.out.m.lt) (hs.below.block _ HC.out.tab.lt), fun a ha => ?_⟩, hsm⟩
        rw [List.map_append, List.mem_append] at ha
        rcases ha with ha | ha
        · rcases hnk a ha with h | ⟨q, h5, h6⟩
          · exact .inl h
          · exact .inr ⟨q, h5, by omega⟩
        · exact .inr ⟨p, by simpa using ha, by omega⟩
      case stop =>
        rintro D c pre W hD hpre h
        exact h.elim
end Go.Proofs.YtppmgbjdbnedoalDoor

/- ply: Chains. -/
set_option linter.unusedVariables false
set_option linter.unusedSimpArgs false
namespace Go.Proofs.YtppmgbjdbnedoalDoor
open Go.RowKit Go.Shelf
attribute [local go_sem] Oper.semAt_some

set_option maxRecDepth 100000 in
set_option maxHeartbeats 1600000 in
theorem Chains_yes (v : Value) (cs : List Nat) (w : World) (hr : Reads w v (ofNats cs)) (hc : Codes cs) (hsp : spaceB cs = true) (hp : plainB cs = true) (hT : Tab w) :
    Calls Tryd.prog 24 #[v] w fun e w' => e = .returned (.tuple #[.int .i64 (wrap64 (sumTo (dnV cs) cs.length)), .int .i64 0]) ∧ Below w.heap.size w w' := by
  have hr0 := hr
  obtain ⟨a, cap, rfl, _, _, _⟩ := hr.open
  clear hr
  have hn6 := hc.2.1
  have hmm := @run_makeMap Tryd.prog
  have HP : Hid (plainB cs = true) := Lib.hid hp
  have HS := Lib.hid hsp
  have HC := Lib.hid hc
  clear hp
  go_enter Tryd.func24, Tryd.ntmps24
  go_wp2_with fail
  refine (newSpace_yes _ cs _ hr0 hc hsp hT).mono ?_
  clear hsp hc
  rintro e w1 ⟨rfl, hb1⟩
  obtain ⟨hs1, hb2⟩ := lay_sp hb1 cs.length (cell cs)
  have hT2 := hT.below hb2
  go_wp2_with fail
  generalize hW : World.alloc w1 _ = W at *
  generalize hX : w1.heap.size = Bx at *
  clear hW hX
  obtain ⟨d0, d1, d2, d3, d4, d5, d6⟩ := hs1.cells
  have HS1 := Lib.hid hs1
  clear hs1
  go_wp2_with fail
  refine (isPlain_any cs _ HC.out).mono ?_
  rintro e w2 ⟨rfl, hb3⟩
  rw [HP.out]
  have hb4 := below_to hb2 hb2.size hb3
  have hT3 := hT2.below hb3
  have hs2 := HS1.out.below hb3
  clear d0 d1 d2 d3 d4 d5 d6 HS1
  have lx := hs2.lt
  have lt := hT3.lt
  have hm0 : MapIs intKey (((w2.alloc (.map #[] 0)).alloc (.cells #[.map (some w2.heap.size)] 63)).alloc (.cells #[(.func (.func 40) #[] #[.pointer (some ⟨w2.heap.size + 1, 0, none⟩), .pointer (some ⟨Bx, 0, none⟩), .pointer (some ⟨w2.heap.size + 1 + 1, 0, none⟩)])] 64)) w2.heap.size [] :=
    ((MapIs.made intKey w2).of_block (heap_alloc_lt _ _ _ (by simp))).of_block (heap_alloc_lt _ _ _ (by simp; omega))
  have hk0 : (((w2.alloc (.map #[] 0)).alloc (.cells #[.map (some w2.heap.size)] 63)).alloc (.cells #[(.func (.func 40) #[] #[.pointer (some ⟨w2.heap.size + 1, 0, none⟩), .pointer (some ⟨Bx, 0, none⟩), .pointer (some ⟨w2.heap.size + 1 + 1, 0, none⟩)])] 64)).heap[w2.heap.size + 1]? = some (.cells #[.map (some w2.heap.size)] 63) := alloc_old (heap_alloc_at _ _ _ (by simp))
  have hf0 : (((w2.alloc (.map #[] 0)).alloc (.cells #[.map (some w2.heap.size)] 63)).alloc (.cells #[(.func (.func 40) #[] #[.pointer (some ⟨w2.heap.size + 1, 0, none⟩), .pointer (some ⟨Bx, 0, none⟩), .pointer (some ⟨w2.heap.size + 1 + 1, 0, none⟩)])] 64)).heap[w2.heap.size + 1 + 1]? = some (.cells #[(.func (.func 40) #[] #[.pointer (some ⟨w2.heap.size + 1, 0, none⟩), .pointer (some ⟨Bx, 0, none⟩), .pointer (some ⟨w2.heap.size + 1 + 1, 0, none⟩)])] 64) := heap_alloc_at _ _ _ (by simp)
  have hb5 : Below w2.heap.size w2 (((w2.alloc (.map #[] 0)).alloc (.cells #[.map (some w2.heap.size)] 63)).alloc (.cells #[(.func (.func 40) #[] #[.pointer (some ⟨w2.heap.size + 1, 0, none⟩), .pointer (some ⟨Bx, 0, none⟩), .pointer (some ⟨w2.heap.size + 1 + 1, 0, none⟩)])] 64)) := (((Below.refl _ _).alloc (Nat.le_refl _) _).alloc (by simp) _).alloc (by simp; omega) _
  have hx0 := hs2.below hb5
  have hn0 := hx0.n
  have HM0 := Lib.hid hm0
  have HK0 := Lib.hid hk0
  have HF0 := Lib.hid hf0
  have HB5 := Lib.hid hb5
  have HX0 := Lib.hid hx0
  clear hm0 hk0 hf0 hb5 hx0 hs2 hmm
  have hmm := @run_makeMap Tryd.prog
  go_wp2_with fail
  generalize hW3 : World.alloc (World.alloc (World.alloc w2 _) _) _ = W3 at *
  have HCW : Hid (CntW cs w2.heap.size (w2.heap.size + 1) Bx (w2.heap.size + 1 + 1) W3 []) := Lib.hid ⟨HK0.out, HM0.out, by simp, by simp, HX0.out, HF0.out, hT3.below HB5.out⟩
  have hcw := HCW.out
  have hb6 := below_to hb4 hb4.size HB5.out
  clear hW3 HM0 HK0 HF0 hn0 hmm
  generalize hbm : w2.heap.size = bm at *
  have hbmw : w.heap.size ≤ bm := by rw [← hbm]; exact hb4.size
  have hbmW : bm < W3.heap.size := hcw.m.lt
  have hsW : w.heap.size ≤ W3.heap.size := hb6.size
  have lt1 := hcw.tab.lt
  have hcnt : ∀ (k : Nat) (V : World) (kvs : List (Int × Value)), k < cs.length → CntW cs bm (bm + 1) Bx (bm + 1 + 1) V kvs → Calls Tryd.prog 40 #[.int .i64 k, .pointer (some ⟨bm + 1, 0, none⟩), .pointer (some ⟨Bx, 0, none⟩), .pointer (some ⟨bm + 1 + 1, 0, none⟩)] V fun e W' => e = .returned (.int .i64 (wrap64 (dnV cs k))) ∧ (∃ kvs', CntW cs bm (bm + 1) Bx (bm + 1 + 1) W' kvs') ∧ KeepM bm V W' := fun k V kvs hk h =>
    (count_any cs HS.out HP.out HC.out bm (bm + 1) Bx (bm + 1 + 1) (by omega) _ k V kvs (Nat.lt_succ_self _) hk h).mono fun e W' hh => ⟨hh.1, ⟨hh.2.1.choose, hh.2.1.choose_spec.1⟩, hh.2.2⟩
  have HCNT := Lib.hid hcnt
  have HB6 := Lib.hid hb6
  clear hcnt HB5 hb6 hcw
  go_loopw [8, 24] (fun s i wr => ∃ k : Nat, k ≤ cs.length ∧ i = .int .i64 k ∧ s = .int .i64 (wrap64 (sumTo (dnV cs) k)) ∧ (∃ kvs, CntW cs bm (bm + 1) Bx (bm + 1 + 1) wr kvs) ∧ KeepM bm W3 wr) (fun _ i _ => cs.length - (intOf i).toNat)
  case atStart => exact ⟨0, by omega, rfl, by rw [show wrap64 (sumTo (dnV cs) 0) = 0 by simp [sumTo, wrap64]], ⟨_, HCW.out⟩, KeepM.refl _ _⟩
  case round =>
    obtain ⟨k, hk, rfl, rfl, ⟨kvs, hcr⟩, hkr⟩ := hrel
    by_cases hlt : k < cs.length
    · have k1 : (k : Int) < (cs.length : Int) := by omega
      have HCR := Lib.hid hcr
      have HKR := Lib.hid hkr
      have cf := cell_of hcr.f (j := 0) rfl
      clear hcr hkr
      go_wp2_with fail
      refine (HCNT.out k _ kvs hlt HCR.out).mono ?_
      rintro e wr2 ⟨rfl, ⟨kv2, h1⟩, h2⟩
      have hadd : wrap64 (wrap64 (sumTo (dnV cs) k) + wrap64 (dnV cs k)) = wrap64 (sumTo (dnV cs) (k + 1)) := by
        rw [show sumTo (dnV cs) (k + 1) = sumTo (dnV cs) k + dnV cs k from rfl]; unfold wrap64; omega
      have HADD := Lib.hid hadd
      clear hadd
      go_wp2_with fail
      go_roundw
      case rel => exact ⟨k + 1, by omega, by go_num, by rw [HADD.out], ⟨_, h1⟩, HKR.out.trans h2⟩
      case measure => simp [intOf]; omega
    · have hkn : k = cs.length := by omega
      subst hkn
      have HKR := Lib.hid hkr
      clear hkr hcr
      go_wp2_with fail
      go_ret2
      exact ⟨rfl, HB6.out.trans (KeepM.below (B := w.heap.size) HKR.out hbmw hsW)⟩

set_option maxRecDepth 100000 in
theorem Chains_alike (v : Value) (cs : List Nat) (w : World) (hr : Reads w v (ofNats cs)) (hc : Codes cs) (hsp : spaceB cs = true) (hp : plainB cs = false) (hT : Tab w) :
    Calls Tryd.prog 24 #[v] w fun e w' => e = .returned (.tuple #[.int .i64 0, .int .i64 6]) ∧ Below w.heap.size w w' := by
  have hr0 := hr
  obtain ⟨a, cap, rfl, _, _, _⟩ := hr.open
  clear hr
  have hn6 := hc.2.1
  have HP := Lib.hid hp
  have HC := Lib.hid hc
  clear hp
  go_enter Tryd.func24, Tryd.ntmps24
  go_wp2_with fail
  refine (newSpace_yes _ cs _ hr0 hc hsp hT).mono ?_
  clear hsp hc
  rintro e w1 ⟨rfl, hb1⟩
  obtain ⟨hs1, hb2⟩ := lay_sp hb1 cs.length (cell cs)
  go_wp2_with fail
  generalize hW : World.alloc w1 _ = W at *
  generalize hX : w1.heap.size = Bx at *
  clear hW hX
  obtain ⟨d0, d1, d2, d3, d4, d5, d6⟩ := hs1.cells
  clear hs1
  go_wp2_with fail
  refine (isPlain_any cs _ HC.out).mono ?_
  rintro e w2 ⟨rfl, hb3⟩
  rw [HP.out]
  have hb4 := below_to hb2 hb2.size hb3
  clear d0 d1 d2 d3 d4 d5 d6
  go_wp2_with fail
  go_ret2
  exact ⟨rfl, hb4⟩
set_option maxRecDepth 100000 in
theorem Chains_no (v : Value) (l : List Int) (w : World) (hr : Reads w v l) (h : spL l = false) (hT : Tab w) :
    Calls Tryd.prog 24 #[v] w fun e w' => e = .returned (.tuple #[.int .i64 0, .int .i64 2]) ∧ Below w.heap.size w w' := by
  have hr0 := hr
  obtain ⟨a, cap, rfl, _, _, _⟩ := hr.open
  clear hr
  go_enter Tryd.func24, Tryd.ntmps24
  go_wp2_with fail
  refine (newSpace_no _ l _ hr0 h hT).mono ?_
  rintro e w1 ⟨n, c, rfl, hb1⟩
  obtain ⟨hs1, hb2⟩ := lay_sp hb1 n c
  go_wp2_with fail
  go_ret2
  exact ⟨rfl, hb2⟩
end Go.Proofs.YtppmgbjdbnedoalDoor

/- ply: the smooth maps, one after the other: smooth's iterator. -/
set_option linter.unusedVariables false
set_option linter.unusedSimpArgs false
namespace Go.Proofs.YtppmgbjdbnedoalDoor
open Go.RowKit Go.Shelf
attribute [local go_sem] Oper.semAt_some

/-! ### images -/
abbrev imF (f : Nat → Nat) : Value := .agg #[.int .i64 (f 0), .int .i64 (f 1), .int .i64 (f 2), .int .i64 (f 3), .int .i64 (f 4), .int .i64 (f 5)]
def ImF (w : World) (b : Nat) (f : Nat → Nat) : Prop := w.heap[b]? = some (.cells #[.int .i64 (f 0), .int .i64 (f 1), .int .i64 (f 2), .int .i64 (f 3), .int .i64 (f 4), .int .i64 (f 5)] 78)
theorem ImF.cell {w : World} {b : Nat} {c : Nat → Nat} (h : ImF w b c) {p : Nat} (hp : p < 6) : w.cell? ⟨b, p, none⟩ = some (.int .i64 (c p)) := by
  have e : p = 0 ∨ p = 1 ∨ p = 2 ∨ p = 3 ∨ p = 4 ∨ p = 5 := by omega
  rcases e with rfl | rfl | rfl | rfl | rfl | rfl <;> exact cell_of h rfl
theorem ImF.drewN {w : World} {b : Nat} {c : Nat → Nat} (h : ImF w b c) (k : Nat) : ImF (w.drewN k) b c := (heap_drewN _ _ _).trans h
theorem ImF.below {w w' : World} {b : Nat} {c : Nat → Nat} (h : ImF w b c) (hb : Below w.heap.size w w') : ImF w' b c := (hb.block b (heap_lt h)).trans h
theorem ImF.lt {w : World} {b : Nat} {c : Nat → Nat} (h : ImF w b c) : b < w.heap.size := heap_lt h
theorem ImF.free {w : World} {b : Nat} {c : Nat → Nat} (h : ImF w b c) (j : Nat) : w.frozen? ⟨b, j, none⟩ = false := free_of h j
theorem ImF.set {w : World} {b p v : Nat} {c c' : Nat → Nat} (h : ImF w b c) (hp : p < 6) (hc : ∀ j, j < 6 → c' j = if j = p then v else c j) : ImF (w.setCell ⟨b, p, none⟩ (.int .i64 v)) b c' := by
  have h0 := hc 0 (by omega)
  have h1 := hc 1 (by omega)
  have h2 := hc 2 (by omega)
  have h3 := hc 3 (by omega)
  have h4 := hc 4 (by omega)
  have h5 := hc 5 (by omega)
  have e : p = 0 ∨ p = 1 ∨ p = 2 ∨ p = 3 ∨ p = 4 ∨ p = 5 := by omega
  have hh := heap_setCell_same _ _ p _ _ (Value.int .i64 v) h
  unfold ImF
  rw [hh]
  rcases e with rfl | rfl | rfl | rfl | rfl | rfl <;> simp_all
theorem ImF.cells {w : World} {b : Nat} {c : Nat → Nat} (h : ImF w b c) : w.cell? ⟨b, 0, none⟩ = some (.int .i64 (c 0)) ∧ w.cell? ⟨b, 1, none⟩ = some (.int .i64 (c 1)) ∧ w.cell? ⟨b, 2, none⟩ = some (.int .i64 (c 2)) ∧
    w.cell? ⟨b, 3, none⟩ = some (.int .i64 (c 3)) ∧ w.cell? ⟨b, 4, none⟩ = some (.int .i64 (c 4)) ∧ w.cell? ⟨b, 5, none⟩ = some (.int .i64 (c 5)) :=
  ⟨cell_of h rfl, cell_of h rfl, cell_of h rfl, cell_of h rfl, cell_of h rfl, cell_of h rfl⟩
theorem cell_snoc (l : List Nat) (q j : Nat) : cell (l ++ [q]) j = if j = l.length then q else cell l j := by
  unfold cell
  by_cases h : j < l.length
  · rw [if_neg (by omega)]; simp [List.getElem?_append_left h]
  · by_cases e : j = l.length
    · subst e; simp
    · rw [if_neg e]; simp only [List.getD_eq_getElem?_getD]; rw [List.getElem?_eq_none (by simp; omega), List.getElem?_eq_none (by omega)]

/-! ### what is visited -/
def fit1 (cs ds : List Nat) (p : Nat) (g : Nat → Nat) (q o : Nat) : Bool := (!(cell cs p).testBit o || (cell ds q).testBit (g o)) && (!(cell cs o).testBit p || (cell ds (g o)).testBit q)
def fitTo (cs ds : List Nat) (p : Nat) (g : Nat → Nat) (q : Nat) : Nat → Bool
  | 0 => true
  | k + 1 => fitTo cs ds p g q k && fit1 cs ds p g q k
/-- may the point that comes go to q -/
def fitB (cs ds l : List Nat) (q : Nat) : Bool := fitTo cs ds l.length (cell (l ++ [q])) q l.length
def smL (cs ds : List Nat) : Nat → List Nat → List (List Nat)
  | 0, l => [l]
  | d + 1, l => (List.range ds.length).flatMap fun q => if fitB cs ds l q = true then smL cs ds d (l ++ [q]) else []
def smTo (cs ds : List Nat) (d : Nat) (l : List Nat) (m : Nat) : List (List Nat) := (List.range m).flatMap fun q => if fitB cs ds l q = true then smL cs ds d (l ++ [q]) else []
theorem smTo_succ (cs ds : List Nat) (d : Nat) (l : List Nat) (m : Nat) : smTo cs ds d l (m + 1) = smTo cs ds d l m ++ if fitB cs ds l m = true then smL cs ds d (l ++ [m]) else [] := by simp [smTo, List.range_succ]
theorem smTo_le (cs ds : List Nat) (d : Nat) (l : List Nat) : ∀ k m, smTo cs ds d l m <+: smTo cs ds d l (m + k)
  | 0, m => List.prefix_rfl
  | k + 1, m => (smTo_le cs ds d l k m).trans (by rw [← Nat.add_assoc, smTo_succ]; exact List.prefix_append _ _)

/-! ### the walk -/
def ExtI (X : Nat → Prop) (J Jx : List (List Nat) → World → Prop) (pre L : List (List Nat)) (W : World) (c : Bool) (W' : World) : Prop :=
  KeepX X W W' ∧ (c = true → J (pre ++ L) W') ∧ (c = false → ∃ ys, ys <+: L ∧ Jx (pre ++ ys) W')
theorem ExtI.mono {X : Nat → Prop} {J Jx : List (List Nat) → World → Prop} {pre L : List (List Nat)} {W0 W W' : World} {c : Bool} (h : ExtI X J Jx pre L W c W') (hk : KeepX X W0 W) : ExtI X J Jx pre L W0 c W' := ⟨hk.trans h.1, h.2⟩
structure CapsI (X : Nat → Prop) (cs ds : List Nat) (l Bx By Bz Be : Nat) (W : World) : Prop where
  x0 : SpF W Bx cs.length (cell cs)
  y0 : W.heap[By]? = some (.cells #[.func (.yield l) #[] #[]] 75)
  z0 : SpF W Bz ds.length (cell ds)
  e0 : W.heap[Be]? = some (.cells #[.func (.func 53) #[] #[.pointer (some ⟨Bx, 0, none⟩), .pointer (some ⟨By, 0, none⟩), .pointer (some ⟨Bz, 0, none⟩), .pointer (some ⟨Be, 0, none⟩)]] 76)
  nx : ¬ X Bx ∧ ¬ X By ∧ ¬ X Bz ∧ ¬ X Be
theorem CapsI.keep {X : Nat → Prop} {cs ds : List Nat} {l Bx By Bz Be : Nat} {W W' : World} (h : CapsI X cs ds l Bx By Bz Be W) (hk : KeepX X W W') : CapsI X cs ds l Bx By Bz Be W' :=
  ⟨hk.block h.x0 h.nx.1, hk.block h.y0 h.nx.2.1, hk.block h.z0 h.nx.2.2.1, hk.block h.e0 h.nx.2.2.2, h.nx⟩
theorem CapsI.set {X : Nat → Prop} {cs ds : List Nat} {l Bx By Bz Be : Nat} {W : World} (h : CapsI X cs ds l Bx By Bz Be W) {b : Nat} (h1 : Bx < b) (h2 : By < b) (h3 : Bz < b) (h4 : Be < b) (j : Nat) (v : Value) : CapsI X cs ds l Bx By Bz Be (W.setCell ⟨b, j, none⟩ v) :=
  ⟨h.x0.other (by omega), (heap_setCell_other _ _ _ _ (by show By ≠ b; omega)).trans h.y0, h.z0.other (by omega), (heap_setCell_other _ _ _ _ (by show Be ≠ b; omega)).trans h.e0, h.nx⟩
theorem has_known {s p : Nat} {b : Bool} (h : s.testBit p = b) (hs : s < 64) (hp : p < 64) (w : World) : Calls Tryd.prog 32 #[.int .u64 s, .int .i64 p] w fun e w' => e = .returned (.bool b) ∧ w = w' := by
  have := has_any s p w hs hp
  rwa [h] at this
def YieldI (X : Nat → Prop) (n l : Nat) (J Jx : List (List Nat) → World → Prop) : Prop :=
  ∀ pre x W1, J pre W1 → x.length = n → YieldAt Fence.wide 0 Tryd.prog l #[imF (cell x)] W1 fun e W' => (e = .returned (.bool true) ∧ J (pre ++ [x]) W' ∧ KeepX X W1 W') ∨ (e = .returned (.bool false) ∧ Jx (pre ++ [x]) W' ∧ KeepX X W1 W')

set_option maxRecDepth 100000 in
set_option maxHeartbeats 32000000 in
theorem extend_in (X : Nat → Prop) (cs ds : List Nat) (hc : Codes cs) (hd : Codes ds) (l Bx By Bz Be B0 : Nat) (hXB : ∀ b, X b → b < B0) (J Jx : List (List Nat) → World → Prop) (hJ : AbidesFrom B0 J) (hJB : ∀ pre W b j v, B0 ≤ b → J pre W → J pre (W.setCell ⟨b, j, none⟩ v)) (hY : YieldI X cs.length l J Jx) :
    ∀ (d : Nat) (lst : List Nat) (W : World) (pre : List (List Nat)), lst.length + d = cs.length → (∀ x ∈ lst, x < ds.length) → B0 ≤ W.heap.size → CapsI X cs ds l Bx By Bz Be W → J pre W →
      CallsIn Fence.wide 9 Tryd.prog 53 #[imF (cell lst), .int .i64 lst.length, .pointer (some ⟨Bx, 0, none⟩), .pointer (some ⟨By, 0, none⟩), .pointer (some ⟨Bz, 0, none⟩), .pointer (some ⟨Be, 0, none⟩)] W fun e W' => ∃ c, e = .returned (.bool c) ∧ ExtI X J Jx pre (smL cs ds d lst) W c W' := by
  intro d
  induction d with
  | zero =>
    intro lst W pre hdl hsm hB0 hcap hj
    have hn6 := hc.2.1
    have hal := (Below.refl W.heap.size W).alloc (Nat.le_refl _) (.cells #[.int .i64 (cell lst 0), .int .i64 (cell lst 1), .int .i64 (cell lst 2), .int .i64 (cell lst 3), .int .i64 (cell lst 4), .int .i64 (cell lst 5)] 78)
    have him : ImF (W.alloc (.cells #[.int .i64 (cell lst 0), .int .i64 (cell lst 1), .int .i64 (cell lst 2), .int .i64 (cell lst 3), .int .i64 (cell lst 4), .int .i64 (cell lst 5)] 78)) W.heap.size (cell lst) := heap_alloc_new _ _
    have hk1 := KeepX.of_below (X := X) hal
    have hj1 := hJ _ _ _ none hj (below_grown0 hal) (fun _ e => by cases e)
    have hc1 := hcap.keep hk1
    refine (callsIn_of_wp Tryd.func53 rfl trivial ?_ rfl)
    simp only [Tryd.ntmps53, List.size_toArray, List.length_cons, List.length_nil, Nat.reduceAdd, Nat.reduceSub, Array.replicate_succ, Array.replicate_zero, List.push_toArray, List.append_toArray, List.nil_append, List.cons_append]
    have heq : ((lst.length : Int) == (cs.length : Int)) = true := by simp; omega
    obtain ⟨d0, d1, d2, d3, d4, d5⟩ := him.cells
    have dn := hc1.x0.n
    have dy := cell_of hc1.y0 (j := 0) rfl
    obtain ⟨fn, tmps, ca, bd, hy, hR⟩ := hY pre lst _ hj1 (by omega)
    have hR2 := RoundIn.any 8 hR
    have hR3 := hR2.mono (R' := fun e W' => ∃ c, e = .returned (.bool c) ∧ ExtI X J Jx pre [lst] W c W') (by
      rintro e W' (⟨rfl, h3, h4⟩ | ⟨rfl, h3, h4⟩)
      · exact ⟨true, rfl, hk1.trans h4, fun _ => h3, fun h => (by cases h)⟩
      · exact ⟨false, rfl, hk1.trans h4, fun h => (by cases h), fun _ => ⟨[lst], List.prefix_rfl, h3⟩⟩)
    clear hR hR2 hY him hc1 hcap hj hal
    gi_wp2_with fail
    refine hR3.mono ?_
    rintro e W' ⟨c, rfl, hext⟩
    gi_wp2
    go_ret
    exact ⟨c, rfl, hext⟩
  | succ d ih =>
    intro lst W pre hdl hsm hB0 hcap hj
    have hn6 := hc.2.1
    have hm6 := hd.2.1
    have hal := (Below.refl W.heap.size W).alloc (Nat.le_refl _) (.cells #[.int .i64 (cell lst 0), .int .i64 (cell lst 1), .int .i64 (cell lst 2), .int .i64 (cell lst 3), .int .i64 (cell lst 4), .int .i64 (cell lst 5)] 78)
    have him : ImF (W.alloc (.cells #[.int .i64 (cell lst 0), .int .i64 (cell lst 1), .int .i64 (cell lst 2), .int .i64 (cell lst 3), .int .i64 (cell lst 4), .int .i64 (cell lst 5)] 78)) W.heap.size (cell lst) := heap_alloc_new _ _
    have hk1 := KeepX.of_below (X := X) hal
    have hj1 := hJ _ _ _ none hj (below_grown0 hal) (fun _ e => by cases e)
    have hc1 := hcap.keep hk1
    have hne : ((lst.length : Int) == (cs.length : Int)) = false := by simp; omega
    have lx : Bx < W.heap.size := hcap.x0.lt
    have ly : By < W.heap.size := heap_lt hcap.y0
    have lz : Bz < W.heap.size := hcap.z0.lt
    have le : Be < W.heap.size := heap_lt hcap.e0
    have hnXi : ¬ X W.heap.size := fun h => by have := hXB _ h; omega
    refine (callsIn_of_wp Tryd.func53 rfl trivial ?_ rfl)
    simp only [Tryd.ntmps53, List.size_toArray, List.length_cons, List.length_nil, Nat.reduceAdd, Nat.reduceSub, Array.replicate_succ, Array.replicate_zero, List.push_toArray, List.append_toArray, List.nil_append, List.cons_append]
    have dn := hc1.x0.n
    have dm := hc1.z0.n
    have HC := Lib.hid hc
    have HD := Lib.hid hd
    have HSM := Lib.hid hsm
    have HC1 := Lib.hid hc1
    have HJ1 := Lib.hid hj1
    have HIM := Lib.hid him
    have HK1 := Lib.hid hk1
    clear hc hd hsm hc1 hj1 him hk1 hj hcap hal
    gi_wp2_with fail
    generalize hW1 : World.alloc W _ = W1 at *
    have hs1 : W1.heap.size = W.heap.size + 1 := by rw [← hW1]; simp
    clear hW1 dn dm hne
    generalize hBi : W.heap.size = Bi at *
    gi_loopw [21] (fun i wr => ∃ (k : Nat) (f : Nat → Nat), k ≤ ds.length ∧ i = .int .i64 k ∧ ImF wr Bi f ∧ (∀ j, j ≠ lst.length → f j = cell lst j) ∧ J (pre ++ smTo cs ds d lst k) wr ∧ KeepX X W wr ∧ CapsI X cs ds l Bx By Bz Be wr) (fun i _ => ds.length - (intOf i).toNat)
    case atStart => exact ⟨0, _, by omega, rfl, HIM.out, fun _ _ => rfl, by simpa [smTo] using HJ1.out, HK1.out, HC1.out⟩
    case round =>
      obtain ⟨k, f, hk, rfl, him, hf, hjr, hkr, hcr⟩ := hrel
      by_cases hlt : k < ds.length
      · have hp6 : lst.length < 6 := by omega
        have p0 : (0 : Int) ≤ (lst.length : Int) := by omega
        have p6 : (lst.length : Int) < 6 := by omega
        have k1 : (k : Int) < (ds.length : Int) := by omega
        have cp := him.cell hp6
        have fp := him.free lst.length
        have HIM2 : Hid (ImF (wr.setCell ⟨Bi, lst.length, none⟩ (.int .i64 k)) Bi (cell (lst ++ [k]))) := Lib.hid (him.set hp6 (fun j hj => by
          rw [cell_snoc]
          split
          · rfl
          · exact (hf j ‹_›).symm))
        have HJ2 : Hid (J (pre ++ smTo cs ds d lst k) (wr.setCell ⟨Bi, lst.length, none⟩ (.int .i64 k))) := Lib.hid (hJB _ _ _ _ _ hB0 hjr)
        have HK2 : Hid (KeepX X W (wr.setCell ⟨Bi, lst.length, none⟩ (.int .i64 k))) := Lib.hid ⟨by simpa using hkr.1, fun b hb hx => (heap_setCell_other _ _ _ _ (by show b ≠ Bi; omega)).trans (hkr.2 b hb hx)⟩
        have HC2 : Hid (CapsI X cs ds l Bx By Bz Be (wr.setCell ⟨Bi, lst.length, none⟩ (.int .i64 k))) := Lib.hid (hcr.set (by omega) (by omega) (by omega) (by omega) _ _)
        clear him hjr hkr hcr
        gi_wp2_with fail
        generalize hW2 : wr.setCell _ _ = W2 at *
        clear hW2
        gi_loopw [10, 28] (fun fi i w2 => ∃ (o : Nat), o ≤ lst.length ∧ i = .int .i64 o ∧ fi = .bool (fitTo cs ds lst.length (cell (lst ++ [k])) k o) ∧ Below W2.heap.size W2 w2) (fun _ i _ => lst.length - (intOf i).toNat)
        case atStart => exact ⟨0, by omega, rfl, rfl, Below.refl _ _⟩
        case round =>
          obtain ⟨o, ho, rfl, rfl, hbo⟩ := hrel
          have HB := Lib.hid hbo
          by_cases hol : o < lst.length
          · have ho6 : o < 6 := by omega
            have hk6 : k < 6 := by omega
            have hg6 : cell (lst ++ [k]) o < 6 := by
              rw [cell_snoc, if_neg (by omega)]
              have := HSM.out (cell lst o) (by simp [cell, List.getD_eq_getElem?_getD, hol])
              omega
            have o0 : (0 : Int) ≤ (o : Int) := by omega
            have o6 : (o : Int) < 6 := by omega
            have o1 : (o : Int) < (lst.length : Int) := by omega
            have g0 : (0 : Int) ≤ (cell (lst ++ [k]) o : Int) := by omega
            have g6 : (cell (lst ++ [k]) o : Int) < 6 := by omega
            have j0 : (0 : Int) ≤ (k : Int) := by omega
            have j6 : (k : Int) < 6 := by omega
            have q1 := (HC2.out.keep (KeepX.of_below hbo)).x0.cell hp6
            have q2 := (HC2.out.keep (KeepX.of_below hbo)).x0.cell ho6
            have q3 := (HC2.out.keep (KeepX.of_below hbo)).z0.cell hk6
            have q4 := (HC2.out.keep (KeepX.of_below hbo)).z0.cell hg6
            have q5 := (HIM2.out.below hbo).cell ho6
            have HA1 : ∀ b, (cell cs lst.length).testBit o = b → Hid (∀ w, Calls Tryd.prog 32 #[.int .u64 (cell cs lst.length), .int .i64 o] w fun e w' => e = .returned (.bool b) ∧ w = w') := fun b h => Lib.hid (has_known h (cell_64 HC.out _) (by omega))
            have HB1 : ∀ b, (cell ds k).testBit (cell (lst ++ [k]) o) = b → Hid (∀ w, Calls Tryd.prog 32 #[.int .u64 (cell ds k), .int .i64 (cell (lst ++ [k]) o)] w fun e w' => e = .returned (.bool b) ∧ w = w') := fun b h => Lib.hid (has_known h (cell_64 HD.out _) (by omega))
            have HA2 : ∀ b, (cell cs o).testBit lst.length = b → Hid (∀ w, Calls Tryd.prog 32 #[.int .u64 (cell cs o), .int .i64 lst.length] w fun e w' => e = .returned (.bool b) ∧ w = w') := fun b h => Lib.hid (has_known h (cell_64 HC.out _) (by omega))
            have HB2 : ∀ b, (cell ds (cell (lst ++ [k]) o)).testBit k = b → Hid (∀ w, Calls Tryd.prog 32 #[.int .u64 (cell ds (cell (lst ++ [k]) o)), .int .i64 k] w fun e w' => e = .returned (.bool b) ∧ w = w') := fun b h => Lib.hid (has_known h (cell_64 HD.out _) (by omega))
            have hf1 : fit1 cs ds lst.length (cell (lst ++ [k])) k o = ((!(cell cs lst.length).testBit o || (cell ds k).testBit (cell (lst ++ [k]) o)) && (!(cell cs o).testBit lst.length || (cell ds (cell (lst ++ [k]) o)).testBit k)) := rfl
            generalize hF : fitTo cs ds lst.length (cell (lst ++ [k])) k o = F at *
            generalize hG : fit1 cs ds lst.length (cell (lst ++ [k])) k o = G at *
            generalize hA1 : (cell cs lst.length).testBit o = a1 at *
            generalize hB1 : (cell ds k).testBit (cell (lst ++ [k]) o) = b1 at *
            generalize hA2 : (cell cs o).testBit lst.length = a2 at *
            generalize hB2 : (cell ds (cell (lst ++ [k]) o)).testBit k = b2 at *
            have HF := Lib.hid hF
            have HG := Lib.hid hG
            replace HA1 := HA1 _ rfl
            replace HB1 := HB1 _ rfl
            replace HA2 := HA2 _ rfl
            replace HB2 := HB2 _ rfl
            clear hbo hF hG hA1 hB1 hA2 hB2 hf
            clear HIM2 HJ2 HK2
            have HC3 := Lib.hid HC2
            clear HC2 HC1
            generalize cell (lst ++ [k]) o = g at *
            generalize cell cs lst.length = s1 at *
            generalize cell cs o = s2 at *
            generalize cell ds k = s3 at *
            generalize cell ds g = s4 at *
            cases F
            · subst hf1
              gi_wp2_with fail
              refine wpIn_wide.2 ?_
              refine wp_region_quiet_lit (by kernel_rfl) (by kernel_rfl) ?_
              repeat (go_big_quiet_step (fail))
              refine wpQuiet_nil ?_
              intro _ hw'
              obtain ⟨nq, hw''⟩ := hw'
              subst hw''
              gi_wp2
              go_roundw
              case rel => exact ⟨o + 1, by omega, by go_num, by simp only [fitTo, HF.out, Bool.false_and], below_to HB.out HB.out.size (below_drewN _ _)⟩
              case measure => simp [intOf]; omega
            · cases a1
              · cases a2
                · obtain rfl : G = true := hf1
                  gi_wp2_with fail
                  refine wpIn_wide.2 ?_
                  refine wp_region_quiet_lit (by kernel_rfl) (by kernel_rfl) ?_
                  repeat (go_big_quiet_step (fail))
                  quiet_step ((go_at_call 32; exact (HA1.out _).mono (fun e w' h => ⟨h.1, _, h.2.symm⟩)))
                  repeat (go_big_quiet_step (fail))
                  quiet_step ((go_at_call 32; exact (HA2.out _).mono (fun e w' h => ⟨h.1, _, h.2.symm⟩)))
                  repeat (go_big_quiet_step (fail))
                  refine wpQuiet_nil ?_
                  intro _ hw'
                  obtain ⟨nq, hw''⟩ := hw'
                  subst hw''
                  gi_wp2
                  go_roundw
                  case rel => exact ⟨o + 1, by omega, by go_num, by simp only [fitTo, HF.out, HG.out, Bool.true_and], below_to HB.out HB.out.size (below_drewN _ _)⟩
                  case measure => simp [intOf]; omega
                · obtain rfl : G = b2 := by rw [hf1]; simp
                  clear hf1
                  gi_wp2_with fail
                  refine wpIn_wide.2 ?_
                  refine wp_region_quiet_lit (by kernel_rfl) (by kernel_rfl) ?_
                  repeat (go_big_quiet_step (fail))
                  quiet_step ((go_at_call 32; exact (HA1.out _).mono (fun e w' h => ⟨h.1, _, h.2.symm⟩)))
                  repeat (go_big_quiet_step (fail))
                  quiet_step ((go_at_call 32; exact (HA2.out _).mono (fun e w' h => ⟨h.1, _, h.2.symm⟩)))
                  repeat (go_big_quiet_step (fail))
                  quiet_step ((go_at_call 32; exact (HB2.out _).mono (fun e w' h => ⟨h.1, _, h.2.symm⟩)))
                  repeat (go_big_quiet_step (fail))
                  refine wpQuiet_nil ?_
                  intro _ hw'
                  obtain ⟨nq, hw''⟩ := hw'
                  subst hw''
                  gi_wp2
                  go_roundw
                  case rel => exact ⟨o + 1, by omega, by go_num, by simp only [fitTo, HF.out, HG.out, Bool.true_and], below_to HB.out HB.out.size (below_drewN _ _)⟩
                  case measure => simp [intOf]; omega
              · cases b1
                · obtain rfl : G = false := hf1
                  gi_wp2_with fail
                  refine wpIn_wide.2 ?_
                  refine wp_region_quiet_lit (by kernel_rfl) (by kernel_rfl) ?_
                  repeat (go_big_quiet_step (fail))
                  quiet_step ((go_at_call 32; exact (HA1.out _).mono (fun e w' h => ⟨h.1, _, h.2.symm⟩)))
                  repeat (go_big_quiet_step (fail))
                  quiet_step ((go_at_call 32; exact (HB1.out _).mono (fun e w' h => ⟨h.1, _, h.2.symm⟩)))
                  repeat (go_big_quiet_step (fail))
                  refine wpQuiet_nil ?_
                  intro _ hw'
                  obtain ⟨nq, hw''⟩ := hw'
                  subst hw''
                  gi_wp2
                  go_roundw
                  case rel => exact ⟨o + 1, by omega, by go_num, by simp only [fitTo, HF.out, HG.out, Bool.true_and], below_to HB.out HB.out.size (below_drewN _ _)⟩
                  case measure => simp [intOf]; omega
                · cases a2
                  · obtain rfl : G = true := hf1
                    gi_wp2_with fail
                    refine wpIn_wide.2 ?_
                    refine wp_region_quiet_lit (by kernel_rfl) (by kernel_rfl) ?_
                    repeat (go_big_quiet_step (fail))
                    quiet_step ((go_at_call 32; exact (HA1.out _).mono (fun e w' h => ⟨h.1, _, h.2.symm⟩)))
                    repeat (go_big_quiet_step (fail))
                    quiet_step ((go_at_call 32; exact (HB1.out _).mono (fun e w' h => ⟨h.1, _, h.2.symm⟩)))
                    repeat (go_big_quiet_step (fail))
                    quiet_step ((go_at_call 32; exact (HA2.out _).mono (fun e w' h => ⟨h.1, _, h.2.symm⟩)))
                    repeat (go_big_quiet_step (fail))
                    refine wpQuiet_nil ?_
                    intro _ hw'
                    obtain ⟨nq, hw''⟩ := hw'
                    subst hw''
                    gi_wp2
                    go_roundw
                    case rel => exact ⟨o + 1, by omega, by go_num, by simp only [fitTo, HF.out, HG.out, Bool.true_and], below_to HB.out HB.out.size (below_drewN _ _)⟩
                    case measure => simp [intOf]; omega
                  · obtain rfl : G = b2 := by rw [hf1]; simp
                    clear hf1
                    gi_wp2_with fail
                    refine wpIn_wide.2 ?_
                    refine wp_region_quiet_lit (by kernel_rfl) (by kernel_rfl) ?_
                    repeat (go_big_quiet_step (fail))
                    quiet_step ((go_at_call 32; exact (HA1.out _).mono (fun e w' h => ⟨h.1, _, h.2.symm⟩)))
                    repeat (go_big_quiet_step (fail))
                    quiet_step ((go_at_call 32; exact (HB1.out _).mono (fun e w' h => ⟨h.1, _, h.2.symm⟩)))
                    repeat (go_big_quiet_step (fail))
                    quiet_step ((go_at_call 32; exact (HA2.out _).mono (fun e w' h => ⟨h.1, _, h.2.symm⟩)))
                    repeat (go_big_quiet_step (fail))
                    quiet_step ((go_at_call 32; exact (HB2.out _).mono (fun e w' h => ⟨h.1, _, h.2.symm⟩)))
                    repeat (go_big_quiet_step (fail))
                    refine wpQuiet_nil ?_
                    intro _ hw'
                    obtain ⟨nq, hw''⟩ := hw'
                    subst hw''
                    gi_wp2
                    go_roundw
                    case rel => exact ⟨o + 1, by omega, by go_num, by simp only [fitTo, HF.out, HG.out, Bool.true_and], below_to HB.out HB.out.size (below_drewN _ _)⟩
                    case measure => simp [intOf]; omega
          · have hop : o = lst.length := by omega
            subst hop
            have hkk := KeepX.of_below (X := X) hbo
            have HIM4 := Lib.hid (HIM2.out.below hbo)
            have HJ4 := Lib.hid (hJ _ _ _ none HJ2.out (below_grown0 hbo) (fun _ e => by cases e))
            have HK4 := Lib.hid (HK2.out.trans hkk)
            have HC4 := Lib.hid (HC2.out.keep hkk)
            have hsz4 : B0 ≤ wr.heap.size := by
              have := HK4.out.1
              omega
            have hfb : fitTo cs ds lst.length (cell (lst ++ [k])) k lst.length = fitB cs ds lst k := rfl
            rw [hfb]
            clear hfb hbo hkk
            rcases hF : fitB cs ds lst k with _ | _
            · have HF := Lib.hid hF
              clear hF
              gi_wp2_with fail
              refine ⟨fun _ h => (by cases h), ?_⟩
              gi_wp2_with fail
              go_roundw
              case rel => exact ⟨k + 1, _, by omega, by go_num, HIM4.out, fun j hj => by rw [cell_snoc, if_neg hj], by rw [smTo_succ, HF.out]; simpa using HJ4.out, HK4.out, HC4.out⟩
              case measure => simp [intOf]; omega
            · have HF := Lib.hid hF
              have e0 := cell_of HC4.out.e0 (j := 0) rfl
              obtain ⟨d0, d1, d2, d3, d4, d5⟩ := HIM4.out.cells
              have hih := CallsIn.any 8 (ih (lst ++ [k]) wr (pre ++ smTo cs ds d lst k) (by simp; omega) (fun x hx => by
                rcases List.mem_append.1 hx with hx | hx
                · exact HSM.out x hx
                · rw [List.mem_singleton.1 hx]; exact hlt) hsz4 HC4.out HJ4.out)
              rw [show (((lst ++ [k]).length : Nat) : Int) = (lst.length : Int) + 1 by simp] at hih
              have HIH := Lib.hid hih
              clear hih hF ih
              gi_wp2_with fail
              refine ⟨trivial, HIH.out.mono ?_⟩
              rintro e W' ⟨c, rfl, hext⟩
              have HE := Lib.hid hext
              clear hext d0 d1 d2 d3 d4 d5 e0 cp fp
              cases c
              · gi_wp2_with fail
                go_ret
                obtain ⟨g1, _, g3⟩ := HE.out
                obtain ⟨zs, g4, g5⟩ := g3 rfl
                refine ⟨false, rfl, HK4.out.trans g1, fun h => (by cases h), fun _ => ⟨smTo cs ds d lst k ++ zs, ?_, by rw [← List.append_assoc]; exact g5⟩⟩
                refine List.IsPrefix.trans ?_ (smTo_le cs ds d lst (ds.length - (k + 1)) (k + 1) |>.trans (by rw [show k + 1 + (ds.length - (k + 1)) = ds.length by omega]; exact List.prefix_rfl))
                rw [smTo_succ, if_pos HF.out, List.prefix_append_right_inj]; exact g4
              · gi_wp2_with fail
                obtain ⟨g1, g2, _⟩ := HE.out
                have g4 := g2 rfl
                go_roundw
                case rel => exact ⟨k + 1, _, by omega, by go_num, g1.block HIM4.out hnXi, fun j hj => by rw [cell_snoc, if_neg hj], by rw [smTo_succ, if_pos HF.out, ← List.append_assoc]; exact g4, HK4.out.trans g1, HC4.out.keep g1⟩
                case measure => simp [intOf]; omega
      · have hkn : k = ds.length := by omega
        have HK := Lib.hid hkn
        clear hkn
        gi_wp2
        go_ret
        refine ⟨true, rfl, hkr, fun _ => ?_, fun h => (by cases h)⟩
        rw [HK.out] at hjr
        exact hjr
end Go.Proofs.YtppmgbjdbnedoalDoor

/- A range statement over an iterator that writes cells of blocks of its own. -/
set_option linter.unusedVariables false
set_option linter.unusedSimpArgs false
namespace Go.Proofs.YtppmgbjdbnedoalDoor
open Go.RowKit

section
variable {α : Type} {n : Nat} {P : Program}

/-- the contract of an iterator that writes cells of its own: at each call of yield, Px holds of what came before, of the element and of the world -/
def GivenB (n : Nat) (P : Program) (gf : Nat) (lb : Array Value) (encs : α → Array Value) (Kp : World → World → Prop) (S Sp : List α → Prop) (Px : List α → α → World → Prop) (w : World) : Prop :=
  ∀ (l : Nat) (J Jx : List α → World → Prop) (W : World), Below w.heap.size w W → w.heap.size + 2 ≤ W.heap.size → AbidesFrom W.heap.size J → AbidesFrom W.heap.size Jx → (∀ pre V b j v, W.heap.size ≤ b → J pre V → J pre (V.setCell ⟨b, j, none⟩ v)) →
    (∀ pre x W1, J pre W1 → Px pre x W1 → YieldAt Fence.wide (n - 1) P l (encs x) W1 fun e W' => (e = .returned (.bool true) ∧ J (pre ++ [x]) W' ∧ Kp W1 W') ∨ (e = .returned (.bool false) ∧ Jx (pre ++ [x]) W' ∧ Kp W1 W')) →
    J [] W → CallsIn Fence.wide n P gf (#[.func (.yield l) #[] #[]] ++ lb) W fun e W' => (∃ v, e = .returned v) ∧ ((∃ xs, S xs ∧ J xs W') ∨ (∃ pre, Sp pre ∧ Jx pre W'))

theorem range_bears {g : Operand} {ps : Array Tmp} {assign body : Code} {Q : Exit → Act → World → Prop} {a : Act} {w : World}
    {gf : Nat} {lb : Array Value} (hg : a.eval g = .func (.func gf) #[] lb) (eg : ∀ args w, (callFunc gf args).run P w = .ok (.enter gf args) w)
    {encs : α → Array Value} {Kp : World → World → Prop} {S Sp : List α → Prop} {Px : List α → α → World → Prop} (hseq : GivenB (n - 1) P gf lb encs Kp S Sp Px w)
    (hKt : ∀ {A B C : World}, Kp A B → Kp B C → Kp A C) (hKb : ∀ (W : World) (o' : Obj), Kp W (W.putObj (w.heap.size + 1) o')) (hps : ∀ x, (encs x).size = ps.size)
    (I : List α → World → Prop) (Ix : Code → List α → World → Prop) (hI : OwnFrom w.heap.size I) (hIx : ∀ c, OwnFrom w.heap.size (Ix c)) (hIB : ∀ pre V b j v, w.heap.size ≤ b → I pre V → I pre (V.setCell ⟨b, j, none⟩ v)) (h0 : I [] w)
    (Ax : List α → α → Act → World → Prop) (hAx : ∀ pre x a', OwnFrom w.heap.size (fun (_ : Unit) W => Ax pre x a' W))
    (hassign : ∀ (l : Nat) (pre : List α) (x : α) (W : World) (K : Act → World → Prop), I pre W → Px pre x W → (∀ a' W', KeepsFrom w.heap.size W W' → Kp W W' → I pre W' → Ax pre x a' W' → K a' W') →
      assign.wpIn (Fence.wide.inRound l) (n - 1 - 1) P (Exit.then K (fun _ _ _ => False)) { tmps := (ps.zip (encs x)).foldl (fun t (p, v) => t.setIfInBounds p v) a.tmps, defers := [] } W)
    (hbody : ∀ (l : Nat) (pre : List α) (x : α) (a' : Act) (W : World), w.heap.size ≤ l → (∃ r, W.heap[l]? = some (.loop r)) → I pre W → Ax pre x a' W → body.wpIn (Fence.wide.inRound l) (n - 1 - 1) P (roundPostK w.heap.size Kp I Ix (pre ++ [x]) W) a' W)
    (hdone : ∀ (D : Nat) (xs : List α) (W : World), w.heap.size ≤ D → S xs → I xs W → W.heap[D]? = some (.deferred (some [])) → Q .normal { a with defers := { target := .collected D, args := #[] } :: a.defers } W)
    (hstop : ∀ (D : Nat) (c : Code) (pre : List α) (W : World), w.heap.size ≤ D → Sp pre → Ix c pre W → W.heap[D]? = some (.deferred (some [])) → c.wpIn Fence.wide n P Q { a with defers := { target := .collected D, args := #[] } :: a.defers } W) :
    (Code.rangeFunc g ps assign body).wpIn Fence.wide n P Q a w := by
  refine wpIn_rangeFunc fun fn hfn => ?_
  let rec0 : LoopState → Option Code → Loop := fun st pe => { state := st, pending := pe, fn := fn, tmps := a.tmps, params := ps, assign := assign, body := body, defers := w.heap.size }
  have hB1 : Books w (rec0 .ready none) ((w.alloc (.deferred (some []))).alloc (.loop (rec0 .ready none))) := by
    refine ⟨?_, (heap_alloc_lt _ _ _ (by simp)).trans (heap_alloc_new _ _)⟩
    exact heap_alloc_at _ _ _ (by simp)
  have hsz : ((w.alloc (.deferred (some []))).alloc (.loop (rec0 .ready none))).heap.size = w.heap.size + 2 := by simp
  have hbel : Below w.heap.size w ((w.alloc (.deferred (some []))).alloc (.loop (rec0 .ready none))) := ((Below.refl _ w).alloc (Nat.le_refl _) _).alloc (by simp) _
  have hent := run_enterLoop_outer (P := P) (w := w) fn a.tmps ps assign body
  have own : ∀ {A : World} {row : Option Nat}, (∀ r, row = some r → w.heap.size + 2 ≤ r ∧ ∃ o : Obj, A.heap[r]? = some o ∧ o.isWalk = true) → ∀ r, row = some r → w.heap.size ≤ r ∧ ∃ o : Obj, A.heap[r]? = some o ∧ o.isCells = false :=
    fun hr r e => by obtain ⟨hB, o, ho, hw⟩ := hr r e; exact ⟨by omega, o, ho, Obj.not_cells_of_walk hw⟩
  refine ⟨w.heap.size + 1, [{ target := .collected w.heap.size, args := #[] }], (w.alloc (.deferred (some []))).alloc (.loop (rec0 .ready none)), { target := .fn (.func gf) lb, args := #[.func (.yield (w.heap.size + 1)) #[] #[]] }, (w.alloc (.deferred (some []))).alloc (.loop (rec0 .ready none)), gf,
    #[.func (.yield (w.heap.size + 1)) #[] #[]] ++ lb, (w.alloc (.deferred (some []))).alloc (.loop (rec0 .ready none)), hent, ?_, fun _ _ => trivial, ?_, fun h => by simp [Fence.wide] at h, ?_⟩
  · simp only [resolve, hg]; simp [go_sem]
  · simp [invoke, go_sem, eg]
  refine (hseq (w.heap.size + 1) (fun pre W => I pre W ∧ Books w (rec0 .ready none) W) (fun pre W => ∃ c, Ix c pre W ∧ Books w (rec0 .done (some c)) W) _ hbel (by rw [hsz]; exact Nat.le_refl _) ?_ ?_ ?_ ?_ ⟨hI.alloc _ (hI.alloc _ h0), hB1⟩).mono ?_
  · intro s A B row hs hg' hr
    rw [hsz] at hr
    exact ⟨hI s A B row hs.1 hg' (own hr), hs.2.abides (W1 := (w.alloc (.deferred (some []))).alloc (.loop (rec0 .ready none))) hg' (by rw [hsz]; exact hr)⟩
  · rintro s A B row ⟨c, h1, h2⟩ hg' hr
    rw [hsz] at hr
    exact ⟨c, hIx c s A B row h1 hg' (own hr), h2.abides (W1 := (w.alloc (.deferred (some []))).alloc (.loop (rec0 .ready none))) hg' (by rw [hsz]; exact hr)⟩
  · rintro s A b j v hb ⟨h1, h2⟩
    rw [hsz] at hb
    exact ⟨hIB _ _ _ _ _ (by omega) h1, h2.keeps ((KeepsOthers.setCell _ _ _).from _)⟩
  · rintro pre x W ⟨hi, hbk⟩ hx
    have hy := run_yield (P := P) (args := encs x) hbk.1 (hps x)
    refine ⟨fn, _, assign, body, hy, roundIn_of_wpIn hfn (hassign _ pre x W _ hi hx ?_)⟩
    intro a' Wa hk1 hp1 hi1 hax
    have hbk1 := hbk.keeps hk1
    have hl1 := heap_lt hbk1.1
    have hbk2 := hbk1.turn { rec0 .ready none with state := .busy }
    refine ⟨_, run_beginRound hbk1.1 rfl, wpIn_mono (hbody _ pre x a' _ (by omega) ⟨_, hbk2.1⟩ (hI.putObj _ hi1 (by omega) hbk1.1 rfl) ((hAx pre x a').putObj (s := ()) _ hax (by omega) hbk1.1 rfl)) ?_⟩
    have hp2 := hKb Wa (.loop { rec0 .ready none with state := .busy })
    intro e a3 W3 hpost
    have fin : ∀ (jump : Option Code), KeepsFrom w.heap.size (Wa.putObj (w.heap.size + 1) (.loop { rec0 .ready none with state := .busy })) W3 →
        (Instr.endRound (w.heap.size + 1) jump).run P W3 = .ok (.bool jump.isNone) (W3.putObj (w.heap.size + 1) (.loop (rec0 (if jump.isNone then .ready else .done) jump))) ∧ Books w { rec0 .ready none with state := .busy } W3 := fun jump hk3 => by
      have hb3 := hbk2.keeps hk3
      exact ⟨run_endRound (P := P) jump hb3.1, hb3⟩
    have stop : ∀ c, KeepsFrom w.heap.size (Wa.putObj (w.heap.size + 1) (.loop { rec0 .ready none with state := .busy })) W3 → Kp (Wa.putObj (w.heap.size + 1) (.loop { rec0 .ready none with state := .busy })) W3 → Ix c (pre ++ [x]) W3 →
        ∃ v w', (Instr.endRound (w.heap.size + 1) (some c)).run P W3 = .ok v w' ∧ ((Ending.returned v = .returned (.bool true) ∧ (I (pre ++ [x]) w' ∧ Books w (rec0 .ready none) w') ∧ Kp W w') ∨ (Ending.returned v = .returned (.bool false) ∧ (∃ c, Ix c (pre ++ [x]) w' ∧ Books w (rec0 .done (some c)) w') ∧ Kp W w')) := fun c hk3 hp3 hi3 => by
      obtain ⟨hr, hb3⟩ := fin (some c) hk3
      exact ⟨_, _, hr, .inr ⟨rfl, ⟨c, (hIx c).putObj _ hi3 (by omega) hb3.1 rfl, hb3.turn _⟩, hKt hp1 (hKt (hKt hp2 hp3) (hKb _ _))⟩⟩
    cases e with
    | normal =>
      obtain ⟨hk3, hp3, hi3⟩ := hpost
      obtain ⟨hr, hb3⟩ := fin none hk3
      exact ⟨_, _, hr, .inl ⟨rfl, ⟨hI.putObj _ hi3 (by omega) hb3.1 rfl, hb3.turn _⟩, hKt hp1 (hKt (hKt hp2 hp3) (hKb _ _))⟩⟩
    | ret => exact stop _ hpost.1 hpost.2.1 hpost.2.2
    | exit id => exact stop _ hpost.1 hpost.2.1 hpost.2.2
    | goto t => exact hpost.elim
    | panic ch => exact hpost.elim
    | outgrown => exact hpost.elim
  · rintro e W2 ⟨⟨v, rfl⟩, (⟨xs, hS, hi, hbk⟩ | ⟨pre, hSp, c, hi, hbk⟩)⟩
    · exact ⟨none, _, run_endLoop (P := P) hbk.1 (by simp [rec0]), hdone _ xs _ (Nat.le_refl _) hS (hI.putObj _ hi (by omega) hbk.1 rfl) ((World.putObj_heap_other (by omega)).trans hbk.2)⟩
    · exact ⟨some c, _, run_endLoop (P := P) hbk.1 (by simp [rec0]), hstop _ c pre _ (Nat.le_refl _) hSp ((hIx c).putObj _ hi (by omega) hbk.1 rfl) ((World.putObj_heap_other (by omega)).trans hbk.2)⟩

/-- the same, where the variable is in no box -/
theorem range_imgs {g : Operand} {ps : Array Tmp} {assign body : Code} {Q : Exit → Act → World → Prop} {a : Act} {w : World}
    {gf : Nat} {lb : Array Value} (hg : a.eval g = .func (.func gf) #[] lb) (eg : ∀ args w, (callFunc gf args).run P w = .ok (.enter gf args) w)
    {encs : α → Array Value} {Kp : World → World → Prop} {S Sp : List α → Prop} {Px : List α → α → World → Prop} (hseq : GivenB (n - 1) P gf lb encs Kp S Sp Px w)
    (hKr : ∀ A : World, Kp A A) (hKt : ∀ {A B C : World}, Kp A B → Kp B C → Kp A C) (hKb : ∀ (W : World) (o' : Obj), Kp W (W.putObj (w.heap.size + 1) o')) (hps : ∀ x, (encs x).size = ps.size)
    (I : List α → World → Prop) (Ix : Code → List α → World → Prop) (a₁ : α → Act) (hI : OwnFrom w.heap.size I) (hIx : ∀ c, OwnFrom w.heap.size (Ix c))
    (hIB : ∀ pre V b j v, w.heap.size ≤ b → I pre V → I pre (V.setCell ⟨b, j, none⟩ v)) (h0 : I [] w)
    (hassign : ∀ (l : Nat) (x : α) (W : World) (K : Act → World → Prop), K (a₁ x) W →
      assign.wpIn (Fence.wide.inRound l) (n - 1 - 1) P (Exit.then K (fun _ _ _ => False)) { tmps := (ps.zip (encs x)).foldl (fun t (p, v) => t.setIfInBounds p v) a.tmps, defers := [] } W)
    (hbody : ∀ (l : Nat) (pre : List α) (x : α) (W : World), w.heap.size ≤ l → I pre W → Px pre x W → body.wpIn (Fence.wide.inRound l) (n - 1 - 1) P (roundPostK w.heap.size Kp I Ix (pre ++ [x]) W) (a₁ x) W)
    (hPx : ∀ pre x a', OwnFrom w.heap.size (fun (_ : Unit) W => a' = a₁ x ∧ Px pre x W))
    (hdone : ∀ (D : Nat) (xs : List α) (W : World), w.heap.size ≤ D → S xs → I xs W → W.heap[D]? = some (.deferred (some [])) → Q .normal { a with defers := { target := .collected D, args := #[] } :: a.defers } W)
    (hstop : ∀ (D : Nat) (c : Code) (pre : List α) (W : World), w.heap.size ≤ D → Sp pre → Ix c pre W → W.heap[D]? = some (.deferred (some [])) → c.wpIn Fence.wide n P Q { a with defers := { target := .collected D, args := #[] } :: a.defers } W) :
    (Code.rangeFunc g ps assign body).wpIn Fence.wide n P Q a w :=
  range_bears hg eg hseq hKt hKb hps I Ix hI hIx hIB h0 (fun pre x a' W => a' = a₁ x ∧ Px pre x W) hPx
    (fun l pre x W K hi hx hK => hassign l x W K (hK _ _ (KeepsFrom.refl _ _) (hKr _) hi ⟨rfl, hx⟩)) (fun l pre x a' W hl hr hi hx => by obtain ⟨rfl, hx⟩ := hx; exact hbody l pre x W hl hi hx) hdone hstop
end
end Go.Proofs.YtppmgbjdbnedoalDoor

/- ply: smooth, and Smooth. -/
set_option linter.unusedVariables false
set_option linter.unusedSimpArgs false
namespace Go.Proofs.YtppmgbjdbnedoalDoor
open Go.RowKit Go.Shelf
attribute [local go_sem] Oper.semAt_some

set_option maxRecDepth 100000 in
theorem smooth_any (cs ds : List Nat) (w : World) :
    Calls Tryd.prog 38 #[spV cs, spV ds] w fun e w' => e = .returned (.func (.func 52) #[] #[.pointer (some ⟨w.heap.size, 0, none⟩), .pointer (some ⟨w.heap.size + 1, 0, none⟩)]) ∧ SpF w' w.heap.size cs.length (cell cs) ∧ SpF w' (w.heap.size + 1) ds.length (cell ds) ∧ Below w.heap.size w w' ∧ w'.heap.size = w.heap.size + 2 := by
  go_enter Tryd.func38, Tryd.ntmps38
  go_wp2_with fail
  go_ret
  exact ⟨rfl, alloc_old (heap_alloc_new _ _), heap_alloc_at _ _ _ (by simp), ((Below.refl _ _).alloc (Nat.le_refl _) _).alloc (by simp) _, by simp⟩

def imgEnc (x : List Nat) : Array Value := #[imF (cell x)]
def smoothsN (cs ds : List Nat) : List (List Nat) := smL cs ds cs.length []

set_option maxRecDepth 100000 in
set_option maxHeartbeats 1600000 in
theorem smooth1_given (X : Nat → Prop) (cs ds : List Nat) (hc : Codes cs) (hd : Codes ds) (Bx Bz m : Nat) (w : World)
    (hX : ∀ b, X b → b < w.heap.size + 2) (hXx : ¬ X Bx) (hXz : ¬ X Bz) (hBx : SpF w Bx cs.length (cell cs)) (hBz : SpF w Bz ds.length (cell ds)) :
    GivenB m Tryd.prog 52 #[.pointer (some ⟨Bx, 0, none⟩), .pointer (some ⟨Bz, 0, none⟩)] imgEnc (KeepX X) (fun zs => zs = smoothsN cs ds) (fun zs => zs <+: smoothsN cs ds) (fun pre x W => x.length = cs.length) w := by
  intro l J Jx W hW hWs hJ hJx hJB hY h0
  refine CallsIn.any (m := 9) _ ?_
  have hBx1 : SpF W Bx cs.length (cell cs) := (hW.block Bx hBx.lt).trans hBx
  have hBz1 : SpF W Bz ds.length (cell ds) := (hW.block Bz hBz.lt).trans hBz
  refine (callsIn_of_wp Tryd.func52 rfl trivial ?_ rfl)
  simp only [Tryd.ntmps52, List.size_toArray, List.length_cons, List.length_nil, Nat.reduceAdd, Nat.reduceSub, Array.replicate_succ, Array.replicate_zero, List.push_toArray, List.append_toArray, List.nil_append, List.cons_append]
  gi_wp2_with fail
  have hXW : ∀ b, X b → b < W.heap.size := fun b hb => Nat.lt_of_lt_of_le (hX b hb) hWs
  have hYok : YieldI X cs.length l J Jx := fun pre x W1 h1 h2 => by
    obtain ⟨fn, tmps, ca, bd, h3, h4⟩ := hY pre x W1 h1 h2
    exact ⟨fn, tmps, ca, bd, h3, RoundIn.any 0 h4⟩
  generalize hW2 : World.alloc (World.alloc W _) _ = W2
  have hbW : Below W.heap.size W W2 := by rw [← hW2]; exact ((Below.refl _ _).alloc (Nat.le_refl _) _).alloc (by simp) _
  have hcap : CapsI X cs ds l Bx W.heap.size Bz (W.heap.size + 1) W2 := by
    refine ⟨hBx1.below hbW, ?_, hBz1.below hbW, ?_, hXx, fun h => by have := hXW _ h; omega, hXz, fun h => by have := hXW _ h; omega⟩
    · rw [← hW2]; exact alloc_old (heap_alloc_new _ _)
    · rw [← hW2]; exact heap_alloc_at _ _ _ (by simp)
  clear hW2
  have hj2 : J [] W2 := hJ _ _ _ none h0 (below_grown0 hbW) (fun _ e => by cases e)
  refine ⟨trivial, (CallsIn.any 8 (extend_in X cs ds hc hd l Bx W.heap.size Bz (W.heap.size + 1) W.heap.size hXW J Jx hJ hJB hYok cs.length [] W2 [] (by simp) (by simp) hbW.size hcap hj2)).mono ?_⟩
  rintro e W' ⟨c, rfl, hext⟩
  have HE := Lib.hid hext
  clear hext
  gi_wp2_with fail
  go_end0
  refine ⟨⟨_, rfl⟩, ?_⟩
  cases c
  · obtain ⟨ys, g1, g2⟩ := HE.out.2.2 rfl
    exact .inr ⟨ys, g1, by simpa using g2⟩
  · exact .inl ⟨_, rfl, by simpa [smoothsN] using HE.out.2.1 rfl⟩

theorem smL_len (cs ds : List Nat) : ∀ d l, (smL cs ds d l).length ≤ ds.length ^ d
  | 0, l => by simp [smL]
  | d + 1, l => by
    simp only [smL]
    rw [List.length_flatMap]
    have : ∀ (f : Nat → Nat) (m : Nat), (∀ r, f r ≤ ds.length ^ d) → ((List.range m).map f).sum ≤ m * ds.length ^ d := by
      intro f m hf
      induction m with
      | zero => simp
      | succ m ih => rw [List.range_succ, List.map_append, List.sum_append]; simp only [List.map_cons, List.map_nil, List.sum_cons, List.sum_nil]; have := hf m; rw [Nat.succ_mul]; omega
    refine Nat.le_trans (this _ ds.length (fun r => ?_)) (by rw [Nat.pow_succ, Nat.mul_comm]; exact Nat.le_refl _)
    split
    · exact smL_len cs ds d _
    · simp
theorem smooths_few {cs ds : List Nat} (hc : Codes cs) (hd : Codes ds) : (smoothsN cs ds).length ≤ 46656 := by
  refine Nat.le_trans (smL_len cs ds _ _) ?_
  refine Nat.le_trans (Nat.pow_le_pow_left hd.2.1 _) ?_
  exact Nat.le_trans (Nat.pow_le_pow_right (by omega) hc.2.1) (by decide)
theorem wrap_next {α : Type} (pre : List α) (x : α) : wrap64 (((pre ++ [x]).length : Nat) : Int) = wrap64 (wrap64 pre.length + 1) := by simp only [List.length_append, List.length_singleton]; push_cast; unfold wrap64; omega
theorem wrap64_small {k : Int} (h1 : -9223372036854775808 ≤ k) (h2 : k ≤ 9223372036854775807) : wrap64 k = k := by unfold wrap64; omega

set_option maxRecDepth 100000 in
set_option maxHeartbeats 1600000 in
theorem Smooth_yes (v u : Value) (cs ds : List Nat) (w : World) (hr : Reads w v (ofNats cs)) (hru : Reads w u (ofNats ds)) (hc : Codes cs) (hd : Codes ds) (hsp : spaceB cs = true) (hsq : spaceB ds = true) (hT : Tab w) :
    Calls Tryd.prog 23 #[v, u] w fun e w' => e = .returned (.tuple #[.int .i64 (smoothsN cs ds).length, .int .i64 0]) ∧ Below w.heap.size w w' := by
  have hr0 := hr
  have hru0 := hru
  obtain ⟨a, cap, rfl, _, _, _⟩ := hr.open
  obtain ⟨a2, cap2, rfl, _, _, _⟩ := hru.open
  clear hr hru
  refine (callsIn_wide (n := 20)).1 ?_
  refine callsIn_of_wp_marks Tryd.func23 rfl trivial ?_ rfl
  simp only [Tryd.ntmps23, List.size_toArray, List.length_cons, List.length_nil, Nat.reduceAdd, Nat.reduceSub, Array.replicate_succ, Array.replicate_zero, List.push_toArray, List.append_toArray, List.nil_append, List.cons_append]
  gi_wp2_with fail
  refine ⟨trivial, (callsIn_wide.2 (newSpace_yes _ cs _ hr0 hc hsp hT)).mono ?_⟩
  rintro e w1 ⟨rfl, hb1⟩
  obtain ⟨hs1, hb2⟩ := lay_sp hb1 cs.length (cell cs)
  have hT2 := hT.below hb2
  have hru2 := hru0.below hb2
  gi_wp2_with fail
  generalize hW : World.alloc w1 _ = W at *
  generalize hX : w1.heap.size = Bx at *
  clear hW hX
  refine ⟨trivial, (callsIn_wide.2 (newSpace_yes _ ds _ hru2 hd hsq hT2)).mono ?_⟩
  rintro e w2 ⟨rfl, hb3⟩
  obtain ⟨hs2, hb4⟩ := lay_sp hb3 ds.length (cell ds)
  have hs1' := hs1.below hb4
  have hb5 := below_to hb2 hb2.size hb4
  have hal := (Below.refl _ (w2.alloc (.cells #[.int .i64 ds.length, .int .u64 (cell ds 0), .int .u64 (cell ds 1), .int .u64 (cell ds 2), .int .u64 (cell ds 3), .int .u64 (cell ds 4), .int .u64 (cell ds 5)] 37))).alloc (Nat.le_refl _) (.cells #[.int .i64 0] 3)
  have h1 := hs1'.below hal
  have h2 := hs2.below hal
  have hb6 := below_to hb5 hb5.size hal
  have hbx := hs1'.lt
  have hwx : w.heap.size ≤ w2.heap.size := Nat.le_trans hb2.size hb3.size
  obtain ⟨d0, d1, d2, d3, d4, d5, d6⟩ := h1.cells
  obtain ⟨e0, e1, e2, e3, e4, e5, e6⟩ := h2.cells
  have hn0 : ((w2.alloc (.cells #[.int .i64 ds.length, .int .u64 (cell ds 0), .int .u64 (cell ds 1), .int .u64 (cell ds 2), .int .u64 (cell ds 3), .int .u64 (cell ds 4), .int .u64 (cell ds 5)] 37)).alloc (.cells #[.int .i64 0] 3)).heap[w2.heap.size + 1]? = some (.cells #[.int .i64 0] 3) := heap_alloc_at _ _ _ (by simp)
  have HN0 := Lib.hid hn0
  clear hs1 hb1 hb3 hb4 hb2 hr0 hru0 hru2 hT2 hs1' hs2 h1 h2 hal hn0 hb5
  gi_wp2_with fail
  clear d0 d1 d2 d3 d4 d5 d6 e0 e1 e2 e3 e4 e5 e6
  generalize hW3 : World.alloc (World.alloc w2 _) _ = W3 at *
  have hsz : W3.heap.size = w2.heap.size + 2 := by rw [← hW3]; simp
  clear hW3
  refine ⟨trivial, (callsIn_wide.2 (smooth_any cs ds _)).mono ?_⟩
  rintro e w3 ⟨rfl, h1, h2, h3, h4⟩
  have hn := (h3.block _ (heap_lt HN0.out)).trans HN0.out
  have hbW := below_to hb6 hb6.size h3
  clear HN0
  rw [hsz] at h1 h2 ⊢
  generalize hBn : w2.heap.size = Bn at *
  gi_wp2_with fail
  have hsz3 : w3.heap.size = Bn + 4 := by omega
  have hb0 : w3.heap[Bn + 1]? = some (.cells #[.int .i64 0] 3) := hn
  have hL := smooths_few hc hd
  refine range_imgs (gf := 52) (lb := #[.pointer (some ⟨Bn + 2, 0, none⟩), .pointer (some ⟨Bn + 2 + 1, 0, none⟩)]) rfl (enters_of Tryd.func52 (by kernel_rfl) rfl)
    (smooth1_given (fun b => b = Bn + 1 ∨ b = w3.heap.size ∨ b = w3.heap.size + 1) cs ds hc hd (Bn + 2) (Bn + 2 + 1) _ w3 (by omega) (by omega) (by omega) h1 h2)
    (fun A => KeepX.refl _ _) (fun h k => KeepX.trans h k) (fun W o' => KeepX.putObj (.inr (.inr rfl))) (fun _ => rfl)
    (fun pre W => W.heap[Bn + 1]? = some (.cells #[.int .i64 (wrap64 pre.length)] 3) ∧ Below w.heap.size w W)
    (fun c pre W => False) ?a1 ?hI (fun c s W W' row h _ _ => h) ?hIB ⟨by rw [show wrap64 ((([] : List (List Nat)).length : Nat) : Int) = 0 from wrap64_small (by simp) (by simp)]; exact hb0, hbW⟩
    ?assign ?body (fun pre x a' s W W' row h _ _ => h) ?done ?stop
  case assign =>
    intro l x W K hK
    simp only [imgEnc]
    gi_wp2
    exact hK
  case hI =>
    rintro s W W' row ⟨h1, h2⟩ hg hr
    exact ⟨own_block hg hr (by omega) h1, h2.grown hg h2.size (fun k e => by have := (hr k e).1; omega)⟩
  case hIB =>
    rintro s W b j v hb ⟨h1, h2⟩
    exact ⟨(heap_setCell_other _ _ _ _ (by show Bn + 1 ≠ b; omega)).trans h1, h2.setCell (p := ⟨b, j, none⟩) (by show w.heap.size ≤ b; omega) _⟩
  case body =>
    rintro l pre x W hl ⟨h1, h2⟩ hx
    have c1 := cell_of h1 (j := 0) rfl
    have f1 := free_of h1 0
    gi_wp2
    have hk : KeepsFrom w3.heap.size W (W.setCell ⟨Bn + 1, 0, none⟩ (.int .i64 (wrap64 (wrap64 pre.length + 1)))) := (KeepsOthers.setCell _ _ _).from _
    refine ⟨hk, ⟨by simp, fun b hb hx => ?_⟩, ?_, h2.setCell (p := ⟨Bn + 1, 0, none⟩) (by show w.heap.size ≤ Bn + 1; omega) _⟩
    · exact heap_setCell_other _ _ _ _ (fun e => hx (.inl e))
    · rw [show wrap64 (((pre ++ [x]).length : Nat) : Int) = wrap64 (wrap64 pre.length + 1) from wrap_next pre x]
      exact set_same h1
  case done =>
    rintro D zs W hD rfl ⟨h1, h2⟩ hK
    have hlen : wrap64 (smoothsN cs ds).length = (smoothsN cs ds).length := wrap64_small (by omega) (by omega)
    rw [hlen] at h1
    have c1 := cell_of h1 (j := 0) rfl
    clear hlen
    gi_wp2
    refine ⟨by simp, .inl ⟨_, _, rfl, run_takeDeferred hK, ?_⟩⟩
    refine ⟨_, results_tmp2 rfl _ _ _, rfl, ?_⟩
    exact h2.trans (belowK_b (w := w) (Nat.le_refl _) _ D _ _ (by omega) hK rfl rfl)
  case stop =>
    rintro D c pre W hD hpre h
    exact h.elim
end Go.Proofs.YtppmgbjdbnedoalDoor

/- ply: Smooth, where one of the lists is no space. -/
set_option linter.unusedVariables false
set_option linter.unusedSimpArgs false
namespace Go.Proofs.YtppmgbjdbnedoalDoor
open Go.RowKit Go.Shelf
attribute [local go_sem] Oper.semAt_some

/-- newSpace at any list -/
theorem newSpace_all (v : Value) (l : List Int) (w : World) (hr : Reads w v l) (hT : Tab w) :
    Calls Tryd.prog 29 #[v] w fun e w' => ∃ n c, e = .returned (.tuple #[spF n c, .bool (spL l)]) ∧ Below w.heap.size w w' := by
  rcases h : spL l with _ | _
  · exact newSpace_no v l w hr h hT
  · obtain ⟨cs, rfl, hc, hs⟩ : ∃ cs, l = ofNats cs ∧ Codes cs ∧ spaceB cs = true := by
      have := spL_get h
      exact ⟨_, this.2.2, this.1, this.2.1⟩
    exact (newSpace_yes v cs w hr hc hs hT).mono fun e w' hh => ⟨_, _, hh.1, hh.2⟩
set_option maxRecDepth 100000 in
set_option maxHeartbeats 1600000 in
theorem Smooth_no (v u : Value) (l m : List Int) (w : World) (hr : Reads w v l) (hru : Reads w u m) (h : (spL l && spL m) = false) (hT : Tab w) :
    Calls Tryd.prog 23 #[v, u] w fun e w' => e = .returned (.tuple #[.int .i64 0, .int .i64 2]) ∧ Below w.heap.size w w' := by
  have hr0 := hr
  have hru0 := hru
  obtain ⟨a, cap, rfl, _, _, _⟩ := hr.open
  obtain ⟨a2, cap2, rfl, _, _, _⟩ := hru.open
  clear hr hru
  refine (callsIn_wide (n := 20)).1 ?_
  refine callsIn_of_wp_marks Tryd.func23 rfl trivial ?_ rfl
  simp only [Tryd.ntmps23, List.size_toArray, List.length_cons, List.length_nil, Nat.reduceAdd, Nat.reduceSub, Array.replicate_succ, Array.replicate_zero, List.push_toArray, List.append_toArray, List.nil_append, List.cons_append]
  gi_wp2_with fail
  refine ⟨trivial, (callsIn_wide.2 (newSpace_all _ l _ hr0 hT)).mono ?_⟩
  rintro e w1 ⟨n, c, rfl, hb1⟩
  obtain ⟨hs1, hb2⟩ := lay_sp hb1 n c
  have hT2 := hT.below hb2
  have hru2 := hru0.below hb2
  gi_wp2_with fail
  generalize hW : World.alloc w1 _ = W at *
  clear hW
  refine ⟨trivial, (callsIn_wide.2 (newSpace_all _ m _ hru2 hT2)).mono ?_⟩
  rintro e w2 ⟨n2, c2, rfl, hb3⟩
  obtain ⟨hs2, hb4⟩ := lay_sp hb3 n2 c2
  have hb5 := below_to hb2 hb2.size hb4
  clear hs1 hs2
  rcases h1 : spL l with _ | _
  · gi_wp2_with fail
    refine leave_marks (B := w.heap.size) [] w.heap.size _ trivial fun w' hs => ?_
    exact ⟨_, results_tmp2 rfl _ _ _, rfl, hb5.trans hs.below⟩
  · rw [h1, Bool.true_and] at h
    rw [h]
    gi_wp2_with fail
    refine leave_marks (B := w.heap.size) [] w.heap.size _ trivial fun w' hs => ?_
    exact ⟨_, results_tmp2 rfl _ _ _, rfl, hb5.trans hs.below⟩
end Go.Proofs.YtppmgbjdbnedoalDoor

/- ply: Opens. -/
set_option linter.unusedVariables false
set_option linter.unusedSimpArgs false
namespace Go.Proofs.YtppmgbjdbnedoalDoor
open Go.RowKit

set_option maxRecDepth 100000 in
set_option maxHeartbeats 1600000 in
theorem Opens_yes (v : Value) (cs : List Nat) (w : World) (hr : Reads w v (ofNats cs)) (hc : Codes cs) (hsp : spaceB cs = true) (hT : Tab w) :
    Calls Tryd.prog 20 #[v] w fun e w' => ∃ v', e = .returned (.tuple #[v', .int .i64 0]) ∧ Col w w' v' (ofNats (opensN cs)) := by
  have hr0 := hr
  obtain ⟨a, cap, rfl, _, _, _⟩ := hr.open
  clear hr
  have hn6 := hc.2.1
  obtain ⟨N, hN⟩ : ∃ N, 2 ^ cs.length = N := ⟨_, rfl⟩
  have hN64 : N ≤ 64 := by rw [← hN]; exact Nat.pow_le_pow_right (n := 2) (by omega) hn6
  have HN : Hid (openTo cs N = opensN cs) := Lib.hid (by rw [← hN]; rfl)
  have hN1 : IntKind.u64.wrap ((allN cs.length : Nat) + 1 : Int) = (N : Int) := by
    have h1 : allN cs.length + 1 = N := by unfold allN; have := Nat.two_pow_pos cs.length; omega
    rw [show ((allN cs.length : Nat) + 1 : Int) = ((allN cs.length + 1 : Nat) : Int) by push_cast; rfl, h1]
    exact wrapU N (by omega)
  have HFIX : Hid (∀ k, k < N → (insideN cs k = k ↔ openB cs k = true)) := Lib.hid (fun k hk => inside_fix (by rw [hN]; exact hk))
  have HLT : Hid (∀ k, k < N → k < 2 ^ cs.length) := Lib.hid (fun k hk => by rw [hN]; exact hk)
  have HC := Lib.hid hc
  clear hN
  go_enter Tryd.func20, Tryd.ntmps20
  go_wp2_with fail
  refine (newSpace_yes _ cs _ hr0 hc hsp hT).mono ?_
  rintro e w1 ⟨rfl, hb1⟩
  obtain ⟨hs1, hb2⟩ := lay_sp hb1 cs.length (cell cs)
  go_wp2_with fail
  generalize hW : World.alloc w1 _ = W at *
  clear hW
  obtain ⟨d0, d1, d2, d3, d4, d5, d6⟩ := hs1.cells
  go_wp2_with fail
  refine (all_any cs _ hn6).mono ?_
  rintro e w2 ⟨rfl, hb3⟩
  have hs2 := hs1.below hb3
  have hb4 := below_to hb2 hb2.size hb3
  have hlt := hs1.lt
  generalize w1.heap.size = B1 at *
  clear hs1 d0 d1 d2 d3 d4 d5 d6 hb1 hb2 hb3 hr0
  go_wp2_with fail
  go_loopw [6, 18] (fun v i wr => ∃ k : Nat, k ≤ N ∧ i = .int .u64 k ∧ Col w wr v (ofNats (openTo cs k)) ∧ SpF wr B1 cs.length (cell cs)) (fun _ i _ => N - (intOf i).toNat)
  case atStart => exact ⟨0, by omega, rfl, ⟨World.ownsRow_nil _ _ _ _, hb4⟩, hs2⟩
  case round =>
    obtain ⟨k, hk, rfl, hcol, hsr⟩ := hrel
    have HCOL := Lib.hid hcol
    have HSR := Lib.hid hsr
    by_cases hlt2 : k < N
    · obtain ⟨d0, d1, d2, d3, d4, d5, d6⟩ := hsr.cells
      have k1 : (k : Int) < (N : Int) := by omega
      have hw1 : IntKind.u64.wrap ((k : Int) + 1) = ((k + 1 : Nat) : Int) := by
        rw [show ((k : Int) + 1) = ((k + 1 : Nat) : Int) by push_cast; rfl]
        exact wrapU (k + 1) (by omega)
      have hwi := wrapI k (by omega)
      have hst := openTo_succ cs k
      have hfx := HFIX.out k hlt2
      have hkn := HLT.out k hlt2
      clear hcol hsr
      rcases hop : openB cs k with _ | _
      · have hne : ¬ insideN cs k = k := fun e => by rw [hfx.1 e] at hop; cases hop
        have hne2 : ((insideN cs k : Int) == (k : Int)) = false := by
          rw [beq_eq_false_iff_ne]; intro e; apply hne; exact_mod_cast e
        rw [hop] at hst
        have HS := Lib.hid hst
        clear hst hop hfx hne
        go_wp2_with fail
        refine (inside_any cs k _ HC.out hkn (hT.below HCOL.out.below)).mono ?_
        rintro e w3 ⟨rfl, hb5⟩
        go_wp2_with fail
        go_roundw
        case rel => exact ⟨k + 1, by omega, by go_num, by rw [HS.out]; simpa using HCOL.out.step hb5, HSR.out.below hb5⟩
        case measure => simp [intOf]; omega
      · have heq : insideN cs k = k := hfx.2 hop
        rw [hop, if_pos rfl] at hst
        have HS := Lib.hid hst
        have HEQ := Lib.hid heq
        have HL : Hid ((ofNats (openTo cs k)).length ≤ 1000000000) := Lib.hid (by have := openTo_len cs k; omega)
        clear hst hop hfx heq
        go_wp2_with fail
        refine (inside_any cs k _ HC.out hkn (hT.below HCOL.out.below)).mono ?_
        rintro e w3 ⟨rfl, hb5⟩
        rw [HEQ.out]
        have HC3 := Lib.hid (HCOL.out.step hb5)
        have HS3 := Lib.hid (HSR.out.below hb5)
        go_wp2_with (at_builtin; refine append_intK rfl _ _ rfl HC3.out rfl _ rfl HL.out ?_; intro v' w' hcol' hne hkeep)
        go_roundw
        case rel => exact ⟨k + 1, by omega, by go_num, by rw [HS.out]; exact hcol', hkeep.sp HS3.out⟩
        case measure => simp [intOf]; omega
    · obtain rfl : k = N := by omega
      have k1 : ¬ (k : Int) < (k : Int) := by omega
      clear hcol hsr
      go_wp2_with fail
      go_ret2
      exact ⟨_, rfl, by rw [← HN.out]; exact HCOL.out⟩
set_option maxRecDepth 100000 in
theorem Opens_no (v : Value) (l : List Int) (w : World) (hr : Reads w v l) (h : spL l = false) (hT : Tab w) :
    Calls Tryd.prog 20 #[v] w fun e w' => e = .returned (.tuple #[.slice none 0 0, .int .i64 2]) ∧ Below w.heap.size w w' := by
  have hr0 := hr
  obtain ⟨a, cap, rfl, _, _, _⟩ := hr.open
  clear hr
  go_enter Tryd.func20, Tryd.ntmps20
  go_wp2_with fail
  refine (newSpace_no _ l _ hr0 h hT).mono ?_
  rintro e w1 ⟨n, c, rfl, hb1⟩
  obtain ⟨hs1, hb2⟩ := lay_sp hb1 n c
  go_wp2_with fail
  go_ret2
  exact ⟨rfl, hb2⟩
end Go.Proofs.YtppmgbjdbnedoalDoor

/- ply: ints and awake, what every statement looks at. -/
set_option linter.unusedVariables false
set_option linter.unusedSimpArgs false
namespace Go.Proofs.YtppmgbjdbnedoalDoor
open Go.RowKit

theorem take_eq_succ {xs ys : List Int} {k : Nat} (h1 : k < xs.length) (h2 : k < ys.length) (h : xs.take k = ys.take k) (he : gi xs k = gi ys k) : xs.take (k + 1) = ys.take (k + 1) := by
  rw [List.take_succ_eq_append_getElem h1, List.take_succ_eq_append_getElem h2, h, ← gi_lt h1, ← gi_lt h2, he]

set_option maxRecDepth 100000 in
set_option maxHeartbeats 800000 in
theorem ints_any (v u : Value) (xs ys : List Int) (w : World) (hr : Reads w v xs) (hs : Reads w u ys) :
    Calls Tryd.prog 10 #[v, u] w fun e w' => e = .returned (.bool (decide (xs = ys))) ∧ ∃ n, w' = w.drewN n := by
  obtain ⟨a, cap, rfl, h1, h2, hcell⟩ := hr.open
  obtain ⟨a2, cap2, rfl, h12, h22, hcell2⟩ := hs.open
  have h3 : xs.length ≤ 9223372036854775807 := by unfold maxLen at h2; omega
  clear h2 h22
  by_cases hl : xs.length = ys.length
  · have hl' : ((xs.length : Int) == (ys.length : Int)) = true := by simp [hl]
    have hl2 : (!((xs.length : Int) == (ys.length : Int))) = false := by simp [hl]
    have HL := Lib.hid hl
    clear hl
    go_enter Tryd.func10, Tryd.ntmps10
    go_wp2_with fail
    go_loopw [5] (fun i wr => ∃ k m : Nat, k ≤ xs.length ∧ i = .int .i64 k ∧ xs.take k = ys.take k ∧ wr = w.drewN m) (fun i _ => xs.length - (intOf i).toNat)
    case atStart => exact ⟨0, 0, by omega, rfl, by simp, rfl⟩
    case round =>
      obtain ⟨k, m, hk, rfl, ht, rfl⟩ := hrel
      have HT := Lib.hid ht
      clear ht
      by_cases hlt : k < xs.length
      · obtain ⟨b, off, rfl, hb, hc⟩ := hcell k hlt
        obtain ⟨b2, off2, rfl, hb2, hc2⟩ := hcell2 k (by have := HL.out; omega)
        clear hcell hcell2
        have hk0 : (0 : Int) ≤ (k : Int) := by omega
        have hk1 : (k : Int) < (xs.length : Int) := by omega
        have hk2 : (k : Int) < (ys.length : Int) := by have := HL.out; omega
        go_wp2_with fail
        go_quiet (fail)
        by_cases he : gi xs k = gi ys k
        · have he' : ((gi xs k) == (gi ys k)) = true := by simp [he]
          have HE := Lib.hid he
          clear he
          go_wp2
          go_roundw
          case rel => exact ⟨k + 1, _, by omega, by go_num, take_eq_succ hlt (by have := HL.out; omega) HT.out HE.out, rfl⟩
          case measure => simp [intOf]; omega
        · have he' : ((gi xs k) == (gi ys k)) = false := by simp [he]
          have HE := Lib.hid he
          clear he
          go_wp2
          go_ret
          refine ⟨ret_bool ?_, _, by first | rfl | exact World.drewN_drewN ..⟩
          symm
          rw [decide_eq_false_iff_not]
          rintro rfl; exact HE.out rfl
      · go_wp2_with fail
        go_ret
        refine ⟨ret_bool ?_, _, rfl⟩
        symm
        rw [decide_eq_true_eq]
        have h := HT.out
        have h9 := HL.out
        rwa [List.take_of_length_le (by omega), List.take_of_length_le (by omega)] at h
  · have hl' : ((xs.length : Int) == (ys.length : Int)) = false := by
      rw [beq_eq_false_iff_ne]; intro h; exact hl (by exact_mod_cast h)
    have HL := Lib.hid hl
    clear hl
    go_enter Tryd.func10, Tryd.ntmps10
    go_wp2_with fail
    go_ret
    refine ⟨ret_bool ?_, 0, rfl⟩
    symm
    rw [decide_eq_false_iff_not]
    rintro rfl; exact HL.out rfl

theorem ints_same (v u : Value) (xs : List Int) (w : World) (hr : Reads w v xs) (hs : Reads w u xs) :
    Calls Tryd.prog 10 #[v, u] w fun e w' => e = .returned (.bool true) ∧ ∃ n, w' = w.drewN n :=
  (ints_any v u xs xs w hr hs).mono fun e w' h => ⟨by rw [h.1, decide_eq_true rfl], h.2⟩
/-- a slice of no numbers shows its length -/
theorem reads_nil {w : World} {v : Value} (h : Reads w v []) : ∃ a cap, v = .slice a 0 cap := by
  obtain ⟨a, cap, h1, _⟩ := h
  exact ⟨a, cap, h1⟩

theorem reads_lit {w : World} {b : Nat} {xs : List Int} {cs : Array Value} {t : TypeId} (h : w.heap[b]? = some (.cells cs t)) (hc : cs = (xs.map (Value.int .i64)).toArray) (hl : xs.length ≤ 1000) : Reads w (.slice (some ⟨b, 0, none⟩) xs.length xs.length) xs := by
  subst hc
  refine ⟨_, xs.length, rfl, Nat.le_refl _, by simp [maxLen]; omega, .inr ⟨b, 0, rfl, heap_lt h, fun j hj => ?_⟩⟩
  rw [Nat.zero_add, cell_of_row _ _ _ _ _ _ h, gi_lt hj]
  simp [hj]

theorem codes_dec {cs : List Nat} (h : (decide (1 ≤ cs.length) && decide (cs.length ≤ 6) && cs.all fun x => decide (x < 2 ^ cs.length)) = true) : Codes cs := by
  simp only [Bool.and_eq_true, decide_eq_true_eq, List.all_eq_true] at h
  refine ⟨h.1.1, h.1.2, fun p => ?_⟩
  unfold cell
  by_cases hp : p < cs.length
  · have e : cs.getD p 0 = cs[p] := by simp [List.getD_eq_getElem?_getD, hp]
    rw [e]; exact h.2 _ (List.getElem_mem hp)
  · have e : cs.getD p 0 = 0 := by simp only [List.getD_eq_getElem?_getD]; rw [List.getElem?_eq_none (by omega)]; rfl
    rw [e]; exact Nat.two_pow_pos _
theorem cod13 : Codes [1, 3] := codes_dec (by decide)
theorem cod1 : Codes [1, 2, 7, 11] := codes_dec (by decide)
theorem aw1 : opensN [1, 3] = [0, 1, 3] := by kernel_rfl
theorem aw2 : closureN [1, 3] 1 = 3 := by kernel_rfl
theorem aw3 : bitsOf (coreN [1, 3]) = [1] := by kernel_rfl
theorem aw4 : (smoothsN [1, 3] [1, 3]).length = 3 := by kernel_rfl
theorem aw5 : wrap64 (sumTo (dnV [1, 2, 7, 11]) 4) = 0 := by kernel_rfl

set_option maxRecDepth 100000 in
set_option maxHeartbeats 3200000 in
theorem awake_any (w : World) (hT : Tab w) : Calls Tryd.prog 9 #[] w fun e w' => e = .returned (.bool true) ∧ Below w.heap.size w w' := by
  have r1 : Reads _ _ (ofNats [1, 3]) := reads_lit (xs := [1, 3]) (heap_alloc_new w (.cells #[.int .i64 1, .int .i64 3] 3)) rfl (by simp)
  have b1 := (Below.refl _ w).alloc (Nat.le_refl _) (.cells #[.int .i64 1, .int .i64 3] 3)
  go_enter Tryd.func9, Tryd.ntmps9
  go_wp2_with fail
  refine (Opens_yes _ [1, 3] _ r1 cod13 (by kernel_rfl) (hT.below b1)).mono ?_
  rintro e w1 ⟨v1, rfl, hc1⟩
  rw [aw1] at hc1
  have b2 := below_to b1 b1.size hc1.below
  have ro : Reads w1 v1 [0, 1, 3] := hc1.reads
  clear hc1 r1 b1
  go_wp2_with fail
  have r2 : Reads _ _ (ofNats [1, 3]) := reads_lit (xs := [1, 3]) (heap_alloc_new w1 (.cells #[.int .i64 1, .int .i64 3] 3)) rfl (by simp)
  have b3 := b2.alloc b2.size (.cells #[.int .i64 1, .int .i64 3] 3)
  have ro2 := ro.below ((Below.refl _ _).alloc (Nat.le_refl _) (.cells #[.int .i64 1, .int .i64 3] 3))
  refine (Closure_yes _ [1, 3] 1 _ r2 cod13 (by kernel_rfl) (by decide) (hT.below b3)).mono ?_
  rintro e w2 ⟨rfl, hb⟩
  rw [aw2]
  have b4 := below_to b3 b3.size hb
  have ro3 := ro2.below hb
  clear hb r2 b3 ro2 ro b2
  go_wp2_with fail
  have r3 : Reads _ _ (ofNats [1, 3]) := reads_lit (xs := [1, 3]) (heap_alloc_new w2 (.cells #[.int .i64 1, .int .i64 3] 3)) rfl (by simp)
  have b5 := b4.alloc b4.size (.cells #[.int .i64 1, .int .i64 3] 3)
  have ro4 := ro3.below ((Below.refl _ _).alloc (Nat.le_refl _) (.cells #[.int .i64 1, .int .i64 3] 3))
  refine (Core_yes _ [1, 3] _ r3 cod13 (by kernel_rfl) (hT.below b5)).mono ?_
  rintro e w3 ⟨v3, rfl, hc3⟩
  rw [aw3] at hc3
  have b6 := below_to b5 b5.size hc3.below
  have ro5 := ro4.below hc3.below
  have rc : Reads w3 v3 [1] := hc3.reads
  clear hc3 r3 b4 ro3 b5 ro4
  go_wp2_with fail
  have r4 : Reads _ _ (ofNats [1, 3]) := (reads_lit (xs := [1, 3]) (heap_alloc_new w3 (.cells #[.int .i64 1, .int .i64 3] 3)) rfl (by simp)).below ((Below.refl _ _).alloc (Nat.le_refl _) (.cells #[.int .i64 1, .int .i64 3] 3))
  have r5 : Reads _ _ (ofNats [1, 3]) := reads_lit (xs := [1, 3]) (heap_alloc_at (w3.alloc (.cells #[.int .i64 1, .int .i64 3] 3)) (.cells #[.int .i64 1, .int .i64 3] 3) (w3.heap.size + 1) (by simp)) rfl (by simp)
  have b7 := b6.alloc b6.size (.cells #[.int .i64 1, .int .i64 3] 3)
  have b8 := b7.alloc b7.size (.cells #[.int .i64 1, .int .i64 3] 3)
  have ro6 := (ro5.below ((Below.refl _ _).alloc (Nat.le_refl _) (.cells #[.int .i64 1, .int .i64 3] 3))).below ((Below.refl _ _).alloc (Nat.le_refl _) (.cells #[.int .i64 1, .int .i64 3] 3))
  have rc6 := (rc.below ((Below.refl _ _).alloc (Nat.le_refl _) (.cells #[.int .i64 1, .int .i64 3] 3))).below ((Below.refl _ _).alloc (Nat.le_refl _) (.cells #[.int .i64 1, .int .i64 3] 3))
  refine (Smooth_yes _ _ [1, 3] [1, 3] _ r4 r5 cod13 cod13 (by kernel_rfl) (by kernel_rfl) (hT.below b8)).mono ?_
  rintro e w4 ⟨rfl, hb⟩
  rw [aw4]
  have b9 := below_to b8 b8.size hb
  have ro7 := ro6.below hb
  have rc7 := rc6.below hb
  clear hb r4 r5 b6 b7 b8 ro5 ro6 rc rc6
  go_wp2_with fail
  have r6 : Reads _ _ (ofNats [1, 2, 7, 11]) := reads_lit (xs := [1, 2, 7, 11]) (heap_alloc_new w4 (.cells #[.int .i64 1, .int .i64 2, .int .i64 7, .int .i64 11] 3)) rfl (by simp)
  have b10 := b9.alloc b9.size (.cells #[.int .i64 1, .int .i64 2, .int .i64 7, .int .i64 11] 3)
  have ro8 := ro7.below ((Below.refl _ _).alloc (Nat.le_refl _) (.cells #[.int .i64 1, .int .i64 2, .int .i64 7, .int .i64 11] 3))
  have rc8 := rc7.below ((Below.refl _ _).alloc (Nat.le_refl _) (.cells #[.int .i64 1, .int .i64 2, .int .i64 7, .int .i64 11] 3))
  refine (Chains_yes _ [1, 2, 7, 11] _ r6 cod1 (by kernel_rfl) (by kernel_rfl) (hT.below b10)).mono ?_
  rintro e w5 ⟨rfl, hb⟩
  rw [show ([1, 2, 7, 11] : List Nat).length = 4 from rfl, aw5]
  have b11 := below_to b10 b10.size hb
  have ro9 := ro8.below hb
  have rc9 := rc8.below hb
  clear hb r6 b9 b10 ro7 ro8 rc7 rc8
  go_wp2_with fail
  have r7 := reads_lit (xs := [0, 1, 3]) (heap_alloc_new w5 (.cells #[.int .i64 0, .int .i64 1, .int .i64 3] 3)) rfl (by simp)
  have b12 := b11.alloc b11.size (.cells #[.int .i64 0, .int .i64 1, .int .i64 3] 3)
  have ro10 := ro9.below ((Below.refl _ _).alloc (Nat.le_refl _) (.cells #[.int .i64 0, .int .i64 1, .int .i64 3] 3))
  have rc10 := rc9.below ((Below.refl _ _).alloc (Nat.le_refl _) (.cells #[.int .i64 0, .int .i64 1, .int .i64 3] 3))
  refine (ints_same _ _ [0, 1, 3] _ ro10 r7).mono ?_
  rintro e w6 ⟨rfl, m6, rfl⟩
  have b13 := below_to b12 b12.size (below_drewN _ m6)
  have rc11 := rc10.below (below_drewN _ m6)
  clear r7 b11 b12 ro9 ro10 rc9 rc10
  generalize hW6 : World.drewN _ m6 = W6 at *
  clear hW6
  go_wp2_with fail
  have r8 := reads_lit (xs := [1]) (heap_alloc_new W6 (.cells #[.int .i64 1] 3)) rfl (by simp)
  have b14 := b13.alloc b13.size (.cells #[.int .i64 1] 3)
  have rc12 := rc11.below ((Below.refl _ _).alloc (Nat.le_refl _) (.cells #[.int .i64 1] 3))
  refine (ints_same _ _ [1] _ rc12 r8).mono ?_
  rintro e w7 ⟨rfl, m7, rfl⟩
  have b15 := below_to b14 b14.size (below_drewN _ m7)
  clear r8 b13 b14 rc11 rc12
  generalize hW7 : World.drewN _ m7 = W7 at *
  clear hW7
  go_wp2_with fail
  go_ret
  exact ⟨rfl, b15⟩
end Go.Proofs.YtppmgbjdbnedoalDoor

/- PlyFourteens. -/
set_option linter.unusedVariables false
set_option linter.unusedSimpArgs false
namespace Go.Proofs.YtppmgbjdbnedoalDoor
open Go.RowKit

set_option maxRecDepth 100000 in
set_option maxHeartbeats 3200000 in
theorem PlyFourteens_walk (sl : Value) (xs : List Int) (a1 : Int) (w : World) (hr : Reads w sl xs) (hx : ∀ x ∈ xs, -9223372036854775808 ≤ x ∧ x ≤ 9223372036854775807) (ha : -9223372036854775808 ≤ a1 ∧ a1 ≤ 9223372036854775807) (hT : Tab w) :
    Calls Tryd.prog 3 #[sl, .int .i64 a1] w fun e w' => e = .returned (.bool true) ∧ Below w.heap.size w w' := by
  clear hx
  rcases hns : spL (xs.take 7) with _ | _
  · have HNS := Lib.hid hns
    have HB : Hid ((spL (xs.take 7) && setB (xs.take 7).length a1) = false) := Lib.hid (by rw [hns]; rfl)
    clear hns
    generalize hys : xs.take 7 = ys at *
    go_enter Tryd.func3, Tryd.ntmps3
    have hb := Below.refl w.heap.size w
    go_wp2_with fail
    refine (lawList_any _ xs _ hr).mono ?_
    rintro e w1 ⟨l, rfl, hcol⟩
    rw [hys] at hcol
    replace hb := below_to hb hb.size hcol.below
    have rl := hcol.reads
    clear hcol
    clear hr hys
    obtain ⟨la, lc, rfl, _, _, _⟩ := rl.open
    go_wp2_with fail
    refine (Fourteen_no _ ys a1 _ rl HB.out (hT.below hb)).mono ?_
    rintro e w2 ⟨rfl, hbn⟩
    replace rl := rl.below hbn
    replace hb := below_to hb hb.size hbn
    clear hbn
    go_wp2_with fail
    refine (Pieces_no _ ys a1 _ rl HB.out (hT.below hb)).mono ?_
    rintro e w3 ⟨rfl, hbn⟩
    replace rl := rl.below hbn
    replace hb := below_to hb hb.size hbn
    clear hbn
    go_wp2_with fail
    refine (refSpace_any _ ys _ rl).mono ?_
    rintro e w4 ⟨rfl, hbn⟩
    rw [HNS.out]
    replace rl := rl.below hbn
    replace hb := below_to hb hb.size hbn
    clear hbn
    go_wp2_with fail
    refine (awake_any _ (hT.below hb)).mono ?_
    rintro e w5 ⟨rfl, hbn⟩
    replace rl := rl.below hbn
    replace hb := below_to hb hb.size hbn
    clear hbn
    go_wp2_with fail
    go_ret
    exact ⟨rfl, hb⟩
  · obtain ⟨hc, hs, hx⟩ := spL_get hns
    have hlen : (xs.take 7).length = (natsOf (xs.take 7)).length := (natsOf_len _).symm
    have HNS := Lib.hid hns
    have HC := Lib.hid hc
    have HS := Lib.hid hs
    have HX := Lib.hid hx
    have HL : Hid ((xs.take 7).length ≤ 6) := Lib.hid (by rw [hlen]; exact hc.2.1)
    have HLEN := Lib.hid hlen
    clear hc hs hx hlen
    rcases hst : setB (xs.take 7).length a1 with _ | _
    · have HB : Hid ((spL (xs.take 7) && setB (xs.take 7).length a1) = false) := Lib.hid (by rw [hst, Bool.and_false])
      have HST := Lib.hid hst
      clear hst hns
      generalize natsOf (xs.take 7) = cs at *
      generalize hys : xs.take 7 = ys at *
      go_enter Tryd.func3, Tryd.ntmps3
      have hb := Below.refl w.heap.size w
      go_wp2_with fail
      refine (lawList_any _ xs _ hr).mono ?_
      rintro e w1 ⟨l, rfl, hcol⟩
      rw [hys] at hcol
      replace hb := below_to hb hb.size hcol.below
      have rl := hcol.reads
      clear hcol
      clear hr hys
      obtain ⟨la, lc, rfl, _, _, _⟩ := rl.open
      go_wp2_with fail
      refine (Fourteen_no _ ys a1 _ rl HB.out (hT.below hb)).mono ?_
      rintro e w2 ⟨rfl, hbn⟩
      replace rl := rl.below hbn
      replace hb := below_to hb hb.size hbn
      clear hbn
      go_wp2_with fail
      refine (Pieces_no _ ys a1 _ rl HB.out (hT.below hb)).mono ?_
      rintro e w3 ⟨rfl, hbn⟩
      replace rl := rl.below hbn
      replace hb := below_to hb hb.size hbn
      clear hbn
      go_wp2_with fail
      refine (refSpace_any _ ys _ rl).mono ?_
      rintro e w4 ⟨rfl, hbn⟩
      rw [HNS.out]
      replace rl := rl.below hbn
      replace hb := below_to hb hb.size hbn
      clear hbn
      go_wp2_with fail
      refine (refSet_any ys.length a1 _ HL.out).mono ?_
      rintro e w5 ⟨rfl, rfl⟩
      rw [HST.out]
      go_wp2_with fail
      refine (awake_any _ (hT.below hb)).mono ?_
      rintro e w6 ⟨rfl, hbn⟩
      replace rl := rl.below hbn
      replace hb := below_to hb hb.size hbn
      clear hbn
      go_wp2_with fail
      go_ret
      exact ⟨rfl, hb⟩
    · obtain ⟨s, rfl⟩ : ∃ s : Nat, a1 = s := ⟨a1.toNat, by have := setB_iff.1 hst; omega⟩
      have HST : Hid (s < 2 ^ (natsOf (xs.take 7)).length) := Lib.hid (by
        have := (setB_iff.1 hst).2
        rw [HLEN.out] at this
        exact_mod_cast this)
      have HSET := Lib.hid hst
      clear hst hns ha
      generalize natsOf (xs.take 7) = cs at *
      generalize hys : xs.take 7 = ys at *
      go_enter Tryd.func3, Tryd.ntmps3
      have hb := Below.refl w.heap.size w
      go_wp2_with fail
      refine (lawList_any _ xs _ hr).mono ?_
      rintro e w1 ⟨l, rfl, hcol⟩
      rw [hys] at hcol
      replace hb := below_to hb hb.size hcol.below
      have rl := hcol.reads
      clear hcol
      clear hr hys
      obtain ⟨la, lc, rfl, _, _, _⟩ := rl.open
      go_wp2_with fail
      have hrc : Reads w1 (.slice la ys.length lc) (ofNats cs) := by rw [← HX.out]; exact rl
      refine (Fourteen_yes _ cs s _ hrc HC.out HS.out HST.out (hT.below hb)).mono ?_
      rintro e w2 ⟨vp, rfl, hcol⟩
      replace rl := rl.below hcol.below
      replace hrc := hrc.below hcol.below
      replace hb := below_to hb hb.size hcol.below
      have rp := hcol.reads
      clear hcol
      obtain ⟨vp_a, vp_c, rfl, _, _, _⟩ := rp.open
      rw [ofNats_len] at rp ⊢
      go_wp2_with fail
      refine (Pieces_yes _ cs s _ hrc HC.out HS.out HST.out (hT.below hb)).mono ?_
      rintro e w3 ⟨vq, rfl, hcol⟩
      replace rl := rl.below hcol.below
      replace hrc := hrc.below hcol.below
      replace rp := rp.below hcol.below
      replace hb := below_to hb hb.size hcol.below
      have rq := hcol.reads
      clear hcol
      obtain ⟨vq_a, vq_c, rfl, _, _, _⟩ := rq.open
      rw [ofNats_len] at rq ⊢
      go_wp2_with fail
      refine (refSpace_any _ ys _ rl).mono ?_
      rintro e w4 ⟨rfl, hbn⟩
      rw [HNS.out]
      replace rl := rl.below hbn
      replace hrc := hrc.below hbn
      replace rp := rp.below hbn
      replace rq := rq.below hbn
      replace hb := below_to hb hb.size hbn
      clear hbn
      go_wp2_with fail
      refine (refSet_any ys.length (s : Int) _ HL.out).mono ?_
      rintro e w5 ⟨rfl, rfl⟩
      rw [HSET.out]
      go_wp2_with fail
      refine (refFourteen_any _ cs s _ hrc HC.out HS.out HST.out).mono ?_
      rintro e w6 ⟨vg, rfl, hcol⟩
      replace rl := rl.below hcol.below
      replace hrc := hrc.below hcol.below
      replace rp := rp.below hcol.below
      replace rq := rq.below hcol.below
      replace hb := below_to hb hb.size hcol.below
      have rg := hcol.reads
      clear hcol
      obtain ⟨vg_a, vg_c, rfl, _, _, _⟩ := rg.open
      rw [ofNats_len] at rg ⊢
      go_wp2_with fail
      refine (ints_same _ _ _ _ rp rg).mono ?_
      rintro e w7 ⟨rfl, m7, rfl⟩
      replace rl := rl.below (below_drewN _ m7)
      replace hrc := hrc.below (below_drewN _ m7)
      replace rp := rp.below (below_drewN _ m7)
      replace rq := rq.below (below_drewN _ m7)
      replace rg := rg.below (below_drewN _ m7)
      replace hb := below_to hb hb.size (below_drewN _ m7)
      generalize hW7 : World.drewN _ m7 = W7 at *
      skip
      clear hW7
      go_wp2_with fail
      refine (refPieces_any _ cs s _ hrc HC.out HST.out).mono ?_
      rintro e w8 ⟨vh, rfl, hcol⟩
      replace rl := rl.below hcol.below
      replace hrc := hrc.below hcol.below
      replace rp := rp.below hcol.below
      replace rq := rq.below hcol.below
      replace rg := rg.below hcol.below
      replace hb := below_to hb hb.size hcol.below
      have rh := hcol.reads
      clear hcol
      obtain ⟨vh_a, vh_c, rfl, _, _, _⟩ := rh.open
      rw [ofNats_len] at rh ⊢
      go_wp2_with fail
      refine (ints_same _ _ _ _ rq rh).mono ?_
      rintro e w9 ⟨rfl, m9, rfl⟩
      replace rl := rl.below (below_drewN _ m9)
      replace hrc := hrc.below (below_drewN _ m9)
      replace rp := rp.below (below_drewN _ m9)
      replace rq := rq.below (below_drewN _ m9)
      replace rg := rg.below (below_drewN _ m9)
      replace rh := rh.below (below_drewN _ m9)
      replace hb := below_to hb hb.size (below_drewN _ m9)
      generalize hW9 : World.drewN _ m9 = W9 at *
      skip
      clear hW9
      go_wp2_with fail
      refine (awake_any _ (hT.below hb)).mono ?_
      rintro e w10 ⟨rfl, hbn⟩
      replace rl := rl.below hbn
      replace hrc := hrc.below hbn
      replace rp := rp.below hbn
      replace rq := rq.below hbn
      replace rg := rg.below hbn
      replace rh := rh.below hbn
      replace hb := below_to hb hb.size hbn
      clear hbn
      go_wp2_with fail
      go_ret
      exact ⟨rfl, hb⟩
end Go.Proofs.YtppmgbjdbnedoalDoor
