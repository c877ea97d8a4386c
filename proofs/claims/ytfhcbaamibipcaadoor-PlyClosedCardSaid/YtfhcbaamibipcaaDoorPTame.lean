/- ply: the helper tame of the statements: the cells of a space. -/
import Derived.Test.YtfhcbaamibipcaaDoorTameLaw
import Derived.Test.YtfhcbaamibipcaaDoorMod
import Derived.Test.YtfhcbaamibipcaaDoorPWe
import Derived.Test.YtfhcbaamibipcaaDoorPList
set_option linter.unusedVariables false
set_option linter.unusedSimpArgs false
namespace Go.Proofs.YtfhcbaamibipcaaDoor
open Go.RowKit Go.Shelf

/-- cells as the first loop makes them -/
structure Start (n : Nat) (plain : Bool) (cs : List Nat) : Prop where
  len : cs.length ≤ n
  each : ∀ j, j < cs.length → cell cs j < 2 ^ n ∧ (cell cs j).testBit j = true ∧ (plain = true → ∀ b, (cell cs j).testBit b = true → b ≤ j)
theorem cell_snoc' (l : List Nat) (q j : Nat) : cell (l ++ [q]) j = if j = l.length then q else cell l j := by
  unfold cell
  by_cases h : j < l.length
  · rw [if_neg (by omega)]; simp [List.getElem?_append_left h]
  · by_cases e : j = l.length
    · subst e; simp
    · rw [if_neg e]; simp only [List.getD_eq_getElem?_getD]; rw [List.getElem?_eq_none (by simp; omega), List.getElem?_eq_none (by omega)]
theorem Start.snoc {n : Nat} {plain : Bool} {cs : List Nat} (h : Start n plain cs) (hl : cs.length < n) {m : Nat} (hm : m < 2 ^ n) (hp : plain = true → m < 2 ^ cs.length) : Start n plain (cs ++ [2 ^ cs.length ||| m]) := by
  refine ⟨by simp; omega, fun j hj => ?_⟩
  rw [cell_snoc']
  by_cases e : j = cs.length
  · subst e
    rw [if_pos rfl]
    have h2 : 2 ^ cs.length < 2 ^ n := Nat.pow_lt_pow_right (by omega) hl
    refine ⟨or_lt h2 hm, by rw [Nat.testBit_or, Nat.testBit_two_pow_self]; rfl, fun hpl b hb => ?_⟩
    have h3 : 2 ^ cs.length ||| m < 2 ^ (cs.length + 1) := or_lt (Nat.pow_lt_pow_right (by omega) (by omega)) (Nat.lt_trans (hp hpl) (Nat.pow_lt_pow_right (by omega) (by omega)))
    by_cases hbb : b ≤ cs.length
    · exact hbb
    · rw [bit_big h3 (by omega)] at hb; cases hb
  · rw [if_neg e]; exact h.each j (by simp at hj; omega)
theorem Start.warm {n : Nat} {plain : Bool} {cs : List Nat} (h : Start n plain cs) (hl : cs.length = n) : Warm n 0 plain cs := by
  refine ⟨hl, fun j => ?_, fun j hj => (h.each j (by omega)).2.1, fun hp i j hi hb => (h.each i (by omega)).2.2 hp j hb, fun m hm => by omega⟩
  by_cases hj : j < cs.length
  · exact (h.each j hj).1
  · rw [cell_far (by omega)]; exact Nat.two_pow_pos _
theorem colN_stored {w0 w : World} {g cap n : Nat} {xs : List Int} (h : Col w0 w (.slice (some ⟨g, 0, none⟩) n cap) xs) (hn : xs.length = n) (j : Nat) (y : Int) :
    Col w0 (w.setCell ⟨g, j, none⟩ (.int .i64 y)) (.slice (some ⟨g, 0, none⟩) n cap) (xs.set j y) := by
  subst hn
  have h1 := h.own.stored j (.int .i64 y)
  have hg : w0.heap.size ≤ g := (h.own.lt g rfl).1
  refine ⟨?_, h.below.setCell hg _⟩
  have := h1.1
  rw [List.length_set, List.map_set]
  exact this
theorem colN_some {w0 w : World} {v : Value} {xs : List Int} (h : Col w0 w v xs) (hne : v ≠ .slice none 0 0) : ∃ g cap, v = .slice (some ⟨g, 0, none⟩) xs.length cap := by
  obtain ⟨_, h2 | ⟨g, cap, cur, h3, h4⟩⟩ := h.own
  · exact absurd h2.1 hne
  · exact ⟨g, cap, h3⟩

set_option maxRecDepth 100000 in
set_option maxHeartbeats 6400000 in
theorem tame_any (x : Int) (sl : Value) (ls : List Int) (most : Nat) (plain : Bool) (w : World) (hr : Reads w sl ls) (hm1 : 1 ≤ most) (hm2 : most ≤ 6) :
    Calls Tryd.prog 4 #[.int .i64 x, sl, .int .i64 most, .bool plain] w fun e w' => ∃ v cs, e = .returned v ∧ Col w w' v (ofNats cs) ∧ Codes cs ∧ spaceB cs = true ∧ (plain = true → plainB cs = true) ∧ cs.length ≤ most := by
  obtain ⟨a, cap, rfl, h1, h2, hcell⟩ := hr.open
  have h3 : ls.length ≤ 9223372036854775807 := by unfold maxLen at h2; omega
  obtain ⟨q, hq⟩ : ∃ q : Nat, modN x most = q := ⟨(modN x most).toNat, by have := modN_rng x (n := (most : Int)) (by omega); omega⟩
  have hq2 : q < most := by have := modN_rng x (n := (most : Int)) (by omega); omega
  have HQ := Lib.hid hq
  clear h2 hq h1 hr
  go_enter Tryd.func4, Tryd.ntmps4
  go_wp2_with fail
  refine (mod_any _ _ _ (by omega) (by omega)).mono ?_
  rintro e w' ⟨rfl, rfl⟩
  rw [HQ.out]
  go_wp2_with fail
  have hown : Col w (w.alloc (.cells #[] 3)) (.slice (some ⟨w.heap.size, 0, none⟩) 0 0) [] :=
    ⟨World.ownsRow_made w #[] 0 (Nat.le_refl _) (by simp [maxLen]) (by simp), (Below.refl _ _).alloc (Nat.le_refl _) _⟩
  generalize hW0 : World.alloc w _ = W0 at hown ⊢
  clear hW0
  obtain ⟨n, hn⟩ : ∃ n : Nat, n = 1 + q := ⟨_, rfl⟩
  have hn' : (1 : Int) + (q : Int) = (n : Int) := by omega
  have hn1 : 1 ≤ n := by omega
  have hnm : n ≤ most := by omega
  have hn6 : n ≤ 6 := by omega
  try rw [hn']
  obtain ⟨N, hN⟩ : ∃ N, 2 ^ n = N := ⟨_, rfl⟩
  have hshN : ((2 : Int) ^ n) = (N : Int) := by rw [← hN]; push_cast; rfl
  have hN64 : N ≤ 64 := by rw [← hN]; exact Nat.pow_le_pow_right (n := 2) (by omega) hn6
  have hN1 : 1 ≤ N := by rw [← hN]; exact Nat.two_pow_pos _
  have HNN := Lib.hid hN
  clear hn hN hq2 HQ
  go_loopw [9, 10] (fun v i wr => ∃ (cs : List Nat), cs.length ≤ n ∧ i = .int .i64 cs.length ∧ v ≠ .slice none 0 0 ∧ Col w wr v (ofNats cs) ∧ Start n plain cs) (fun _ i _ => n - (intOf i).toNat)
  case atStart => exact ⟨[], by simp, rfl, by simp, hown, ⟨by simp, fun j hj => by simp at hj⟩⟩
  case round =>
    obtain ⟨cs, hk, rfl, hne, hcol, hst⟩ := hrel
    have hol := ofNats_len cs
    have HLEN : Hid ((ofNats cs).length ≤ 1000000000) := Lib.hid (by omega)
    by_cases hlt : cs.length < n
    · have HST := Lib.hid hst
      obtain ⟨Q, hQ⟩ : ∃ Q, 2 ^ cs.length = Q := ⟨_, rfl⟩
      have hshQ : ((2 : Int) ^ cs.length) = (Q : Int) := by rw [← hQ]; push_cast; rfl
      have hQ64 : Q ≤ 64 := by rw [← hQ]; exact Nat.pow_le_pow_right (n := 2) (by omega) (show cs.length ≤ 6 by omega)
      have hQ1 : 1 ≤ Q := by rw [← hQ]; exact Nat.two_pow_pos _
      have HQQ := Lib.hid hQ
      have hlti : (cs.length : Int) < (n : Int) := by omega
      clear hst hQ hol
      by_cases hll : cs.length < ls.length
      · have hlli : (cs.length : Int) < (ls.length : Int) := by omega
        obtain ⟨b, off, rfl, hb, hc⟩ := hcell cs.length hll
        have hc' : wr.cell? ⟨b, off + cs.length, none⟩ = some (.int .i64 (gi ls cs.length)) := (hcol.below.cell (p := ⟨b, off + cs.length, none⟩) hb).trans hc
        have k0 : (0 : Int) ≤ (cs.length : Int) := by omega
        clear hcell hc
        generalize gi ls cs.length = y at *
        cases plain
        · obtain ⟨m, hm⟩ : ∃ m : Nat, modN y (N : Int) = m := ⟨(modN y (N : Int)).toNat, by have := modN_rng y (n := (N : Int)) (by omega); omega⟩
          have hm2 : m < N := by have := modN_rng y (n := (N : Int)) (by omega); omega
          have HMOD : Hid (∀ w, Calls Tryd.prog 5 #[.int .i64 y, .int .i64 N] w fun e w' => e = .returned (.int .i64 m) ∧ w = w') := Lib.hid (fun w => by have := mod_any y (N : Int) w (by omega) (by omega); rwa [hm] at this)
          have hor := i64_or Q m (by omega) (by omega)
          have HS2 : Hid (Start n false (cs ++ [Q ||| m])) := Lib.hid (by
            have := HST.out.snoc hlt (m := m) (by rw [HNN.out]; exact hm2) (fun h => by cases h)
            rwa [HQQ.out] at this)
          clear hm
          go_wp2_with fail
          refine wp_region_quiet_lit (by kernel_rfl) (by kernel_rfl) ?_
          repeat (go_big_quiet_step (fail))
          quiet_step ((go_at_call 5; exact (HMOD.out _).mono (fun e w' h => ⟨h.1, _, h.2.symm⟩)))
          repeat (go_big_quiet_step (fail))
          refine wpQuiet_nil ?_
          intro _ hw'
          obtain ⟨nq, hw''⟩ := hw'
          subst hw''
          replace hcol := hcol.step (below_drewN _ nq)
          go_wp2_with (at_builtin; refine append_int rfl _ _ rfl hcol rfl _ rfl HLEN.out ?_; intro v2 w2 hc2 hne2)
          go_roundw
          case rel => exact ⟨cs ++ [Q ||| m], by simp; omega, by simp, hne2, by simpa [ofNats] using hc2, HS2.out⟩
          case measure => simp [intOf]; omega
        · obtain ⟨m, hm⟩ : ∃ m : Nat, modN y (Q : Int) = m := ⟨(modN y (Q : Int)).toNat, by have := modN_rng y (n := (Q : Int)) (by omega); omega⟩
          have hm2 : m < Q := by have := modN_rng y (n := (Q : Int)) (by omega); omega
          have HMOD : Hid (∀ w, Calls Tryd.prog 5 #[.int .i64 y, .int .i64 Q] w fun e w' => e = .returned (.int .i64 m) ∧ w = w') := Lib.hid (fun w => by have := mod_any y (Q : Int) w (by omega) (by omega); rwa [hm] at this)
          have hor := i64_or Q m (by omega) (by omega)
          have HS2 : Hid (Start n true (cs ++ [Q ||| m])) := Lib.hid (by
            have := HST.out.snoc hlt (m := m) (by have h9 : (2 : Nat) ^ cs.length ≤ 2 ^ n := Nat.pow_le_pow_right (by omega) (by omega); rw [HQQ.out] at h9; omega) (fun _ => by rw [HQQ.out]; exact hm2)
            rwa [HQQ.out] at this)
          clear hm
          go_wp2_with fail
          refine wp_region_quiet_lit (by kernel_rfl) (by kernel_rfl) ?_
          repeat (go_big_quiet_step (fail))
          quiet_step ((go_at_call 5; exact (HMOD.out _).mono (fun e w' h => ⟨h.1, _, h.2.symm⟩)))
          repeat (go_big_quiet_step (fail))
          refine wpQuiet_nil ?_
          intro _ hw'
          obtain ⟨nq, hw''⟩ := hw'
          subst hw''
          replace hcol := hcol.step (below_drewN _ nq)
          go_wp2_with (at_builtin; refine append_int rfl _ _ rfl hcol rfl _ rfl HLEN.out ?_; intro v2 w2 hc2 hne2)
          go_roundw
          case rel => exact ⟨cs ++ [Q ||| m], by simp; omega, by simp, hne2, by simpa [ofNats] using hc2, HS2.out⟩
          case measure => simp [intOf]; omega
      · have hlli : decide ((cs.length : Int) < (ls.length : Int)) = false := by simp; omega
        have hllx : ¬ cs.length < ls.length := hll
        have HS2 : Hid (Start n plain (cs ++ [Q])) := Lib.hid (by
          have := HST.out.snoc hlt (m := 0) (Nat.two_pow_pos _) (fun _ => Nat.two_pow_pos _)
          rwa [HQQ.out, Nat.or_zero] at this)
        clear hcell
        go_wp2_with (at_builtin; refine append_int rfl _ _ rfl hcol rfl _ rfl HLEN.out ?_; intro v2 w2 hc2 hne2)
        go_roundw
        case rel => exact ⟨cs ++ [Q], by simp; omega, by simp, hne2, by simpa [ofNats] using hc2, HS2.out⟩
        case measure => simp [intOf]; omega
    · have hcn : cs.length = n := by omega
      have HST := Lib.hid (hst.warm hcn)
      have hnlt : ¬ cs.length < n := hlt
      obtain ⟨g, cap9, rfl⟩ := colN_some hcol hne
      have hlen9 : (ofNats cs).length = n := by rw [hol, hcn]
      rw [hlen9] at hcol ⊢
      have HCOL := Lib.hid hcol
      clear hst hcell hne hcol hol hlen9 HNN hshN HLEN
      go_wp2_with fail
      go_loopw [12] (fun i wr => ∃ (k : Nat) (cs : List Nat), k ≤ n ∧ i = .int .i64 k ∧ Col w wr (.slice (some ⟨g, 0, none⟩) n cap9) (ofNats cs) ∧ Warm n k plain cs) (fun i _ => n - (intOf i).toNat)
      case atStart => exact ⟨0, _, by omega, rfl, HCOL.out, HST.out⟩
      case round =>
        clear HCOL HST hnlt hcn hk
        obtain ⟨k, cs, hk, rfl, hcol, hwm⟩ := hrel
        by_cases hkn : k < n
        · have HWM := Lib.hid hwm
          have HC0 := Lib.hid hcol
          clear hwm hcol
          go_wp2_with fail
          go_loopw [13] (fun i wr => ∃ j : Nat, j ≤ n ∧ i = .int .i64 j ∧ Col w wr (.slice (some ⟨g, 0, none⟩) n cap9) (ofNats (warTo cs k j))) (fun i _ => n - (intOf i).toNat)
          case atStart => exact ⟨0, by omega, rfl, by rw [eq_of_cells (warTo_len cs k 0) (warTo_zero cs k)]; exact HC0.out⟩
          case round =>
            clear HC0
            obtain ⟨j, hj, rfl, hcol⟩ := hrel
            by_cases hjn : j < n
            · have hln : cs.length = n := HWM.out.len
              have hol : (ofNats (warTo cs k j)).length = n := by rw [ofNats_len, warTo_len, hln]
              have own := hcol.own
              rw [hol] at own
              have hcellat : ∀ p, p < n → wr.cell? ⟨g, p, none⟩ = some (.int .i64 (cell (warTo cs k j) p)) := fun p hp => by
                rw [own.cellAt p (by omega), ← gi_nats, gi_lt (by rw [hol]; exact hp)]
                simp [hol, hp]
              have q1 := hcellat j hjn
              have q2 := hcellat k hkn
              rw [warTo_i] at q1
              rw [warTo_k] at q2
              have fz := own.frozenAt j
              have c1 : cell cs j < 64 := Nat.lt_of_lt_of_le (HWM.out.lt j) (Nat.pow_le_pow_right (n := 2) (by omega) hn6)
              have c2 : cell cs k < 64 := Nat.lt_of_lt_of_le (HWM.out.lt k) (Nat.pow_le_pow_right (n := 2) (by omega) hn6)
              have j0 : (0 : Int) ≤ (j : Int) := by omega
              have j1 : (j : Int) < (n : Int) := by omega
              have k0 : (0 : Int) ≤ (k : Int) := by omega
              have k1 : (k : Int) < (n : Int) := by omega
              have hb := refhas_bit (cell cs j) k
              have hor := i64_or (cell cs j) (cell cs k) (by omega) (by omega)
              have hst : ∀ nq, Col w ((wr.drewN nq).setCell ⟨g, j, none⟩ (.int .i64 ((cell cs j ||| cell cs k : Nat) : Int))) (.slice (some ⟨g, 0, none⟩) n cap9) ((ofNats (warTo cs k j)).set j ((cell cs j ||| cell cs k : Nat) : Int)) := fun nq => colN_stored (hcol.step (below_drewN _ nq)) hol j ((cell cs j ||| cell cs k : Nat) : Int)
              have hnext := warTo_next cs k j (by omega)
              have hsame := warTo_same cs k j
              rcases hbit : (cell cs j).testBit k with _ | _
              · rw [hbit] at hb
                have HS := Lib.hid (hsame hbit)
                have HCOL := Lib.hid hcol
                clear hst hnext hsame hcol own hcellat hbit hol
                go_wp2_with fail
                go_roundw
                case rel => exact ⟨j + 1, by omega, by go_num, by rw [HS.out]; exact HCOL.out⟩
                case measure => simp [intOf]; omega
              · rw [hbit] at hb
                have hset : (ofNats (warTo cs k j)).set j ((cell cs j ||| cell cs k : Nat) : Int) = ofNats (warTo cs k (j + 1)) := by
                  rw [hnext]; unfold ofNats wup; rw [if_pos hbit, List.map_set]
                rw [hset] at hst
                have HST2 := Lib.hid hst
                clear hst hnext hsame own hcellat hbit hol hset
                have hsz0 := hcol.below
                clear hcol
                go_wp2_with fail
                refine (wpIn_wide (n := 20)).1 ?_
                refine region_then 12 rfl rfl rfl (by kernel_rfl) (by kernel_rfl) (by kernel_rfl) (by kernel_rfl) (by kernel_rfl) (by kernel_rfl) ?_
                dsimp only [List.dropLast]
                repeat (gi_big_quiet_step (fail))
                refine wpQuietIn_nil ?_
                intro _ hw'
                obtain ⟨nq, hw''⟩ := hw'
                subst hw''
                go_simp
                go_at_K
                go_wp2_with fail
                go_roundw
                case rel => exact ⟨j + 1, by omega, by go_num, HST2.out nq⟩
                case measure => simp [intOf]; omega
            · have hjn2 : j = n := by omega
              have HJ := Lib.hid hjn2
              clear hjn2
              go_wp2_with fail
              go_roundw
              case rel => exact ⟨k + 1, _, by omega, by go_num, hcol, by rw [HJ.out]; exact HWM.out.next hkn⟩
              case measure => simp [intOf]; omega
        · have hkn2 : k = n := by omega
          subst hkn2
          have HWM := Lib.hid hwm
          clear hwm
          go_wp2_with fail
          go_ret
          exact ⟨_, _, rfl, hcol, HWM.out.codes hn1 hn6, HWM.out.space, fun h => by subst h; exact HWM.out.plain, by rw [HWM.out.len]; exact hnm⟩
end Go.Proofs.YtfhcbaamibipcaaDoor
