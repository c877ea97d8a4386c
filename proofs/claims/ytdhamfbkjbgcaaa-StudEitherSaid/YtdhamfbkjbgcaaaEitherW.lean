/- StudEither. -/
import Derived.Test.YtdhamfbkjbgcaaaEitherLaw
import Derived.Test.YtdhamfbkjbgcaaaTame
import Derived.Test.YtdhamfbkjbgcaaaAwake
import Derived.Test.YtdhamfbkjbgcaaaLens
set_option linter.unusedVariables false
set_option linter.unusedSimpArgs false
namespace Go.Proofs.Ytdhamfbkjbgcaaa
open Go.RowKit

theorem clear_four {xs : List Int} (ho : ordB xs = true) : ∃ (a b c d : Int) (bb : Bool), clearS xs = .tuple #[.agg #[.int .i64 a, .int .i64 b, .int .i64 c, .int .i64 d], .bool bb, .int .i64 0] ∧ clearB xs = bb ∧ (bb = true → a = 0 ∧ b = 0 ∧ c = 0 ∧ d = 0) ∧
    (bb = false → ∃ i j k l : Nat, a = i ∧ b = j ∧ c = k ∧ d = l ∧ i < j ∧ j < xs.length ∧ i < k ∧ k < l ∧ l < xs.length ∧ (j : Int) - i = (l : Int) - k ∧ gi xs j - gi xs i = gi xs l - gi xs k) := by
  unfold clearS
  rw [ho]
  rcases hf : firstClash xs with _ | ⟨p, q⟩
  · exact ⟨0, 0, 0, 0, true, rfl, firstClash_iff.1 hf, fun _ => ⟨rfl, rfl, rfl, rfl⟩, fun h => by cases h⟩
  · have hc : clearB xs = false := by
      rcases h : clearB xs with _ | _
      · rfl
      · rw [← firstClash_iff, hf] at h; cases h
    have h := clash_found hf
    exact ⟨p.1, p.2, q.1, q.2, false, rfl, hc, fun h => (by cases h), fun _ => ⟨p.1, p.2, q.1, q.2, rfl, rfl, rfl, rfl, h⟩⟩

/-- the cells of a slice of rows, in a later world -/
theorem MCells.below {w w' : World} {a : Option Addr} {xss : List (List Int)} {B n : Nat} (h : ∀ k, k < n → ∃ b r, a = some ⟨b, 0, none⟩ ∧ b < w.heap.size ∧ w.cell? ⟨b, k, none⟩ = some r ∧ OwnRow B w r (xss.getD k [])) (hb : Below w.heap.size w w') :
    ∀ k, k < n → ∃ b r, a = some ⟨b, 0, none⟩ ∧ b < w'.heap.size ∧ w'.cell? ⟨b, k, none⟩ = some r ∧ OwnRow B w' r (xss.getD k []) := fun k hk => by
  obtain ⟨b, r, h1, h2, h3, h4⟩ := h k hk
  exact ⟨b, r, h1, Nat.lt_of_lt_of_le h2 hb.size, (hb.cell (p := ⟨b, k, none⟩) h2).trans h3, h4.below hb⟩

set_option maxRecDepth 100000 in
set_option maxHeartbeats 6400000 in
theorem StudEither_walk (x : Int) (sl : Value) (ls : List Int) (w : World) (wx : -9223372036854775808 ≤ x ∧ x ≤ 9223372036854775807) (hr : Reads w sl ls) (hx : ∀ x ∈ ls, -9223372036854775808 ≤ x ∧ x ≤ 9223372036854775807) :
    Calls Try.prog 3 #[.int .i64 x, sl] w fun e w' => e = .returned (.bool true) ∧ Below w.heap.size w w' := by
  clear hx wx
  go_enter Try.func3, Try.ntmps3
  go_wp2_with fail
  refine (tame_any x _ ls 16 _ hr (by omega) (by omega)).mono ?_
  rintro e w1 ⟨l, o, rfl, hne, hcol, ho, hl⟩
  obtain ⟨g, cap, rfl⟩ := hcol.some hne
  have hb1 := hcol.below
  have hr1 := hcol.reads
  obtain ⟨hl1, hl2⟩ := ordB_len ho
  obtain ⟨xa, xb, xc, xd, bb, hcl, hbb, hzz, hff⟩ := clear_four ho
  obtain ⟨wa, wb, wc, hws, hwl⟩ := worst_ex ho
  have hcw := clear_worst ho
  have hwat := worst_at (xs := o)
  have hwr := worst_rng (xs := o)
  rw [hwl] at hcw hwat hwr
  simp only at hcw hwat hwr
  have hcwb : decide (wa ≤ 1) = bb := by rw [← hbb, Bool.eq_iff_iff, decide_eq_true_eq]; exact hcw.symm
  have HO := Lib.hid ho
  have HCL := Lib.hid hcl
  have HWS := Lib.hid hws
  have HBB := Lib.hid hbb
  have HZZ := Lib.hid hzz
  have HRNG := Lib.hid (ordB_rng ho)
  have hT := triL_len o (o.length - 1)
  generalize hn : o.length = n at *
  have HFF := Lib.hid hff
  have HTL := Lib.hid hT
  have HN := Lib.hid hn
  clear hcol hne ho hr hl hcl hws hbb hzz hff hT hn hwl hcw
  go_wp2_with fail
  refine (Clear_any _ _ _ hr1).mono ?_
  rintro e w2 ⟨rfl, hb2⟩
  rw [HCL.out]
  go_wp2_with fail
  have hx2 : (w2.alloc (.cells #[.int .i64 xa, .int .i64 xb, .int .i64 xc, .int .i64 xd] 24)).heap[w2.heap.size]? = some (.cells #[.int .i64 xa, .int .i64 xb, .int .i64 xc, .int .i64 xd] 24) := heap_alloc_new _ _
  have hal : Below w2.heap.size w2 (w2.alloc (.cells #[.int .i64 xa, .int .i64 xb, .int .i64 xc, .int .i64 xd] 24)) := (Below.refl _ _).alloc (Nat.le_refl _) _
  have hr3 := (hr1.below hb2).below hal
  have hb3 := (hb1.trans (hb2.mono hb1.size)).trans (hal.mono (hb1.trans (hb2.mono hb1.size)).size)
  generalize hW3 : World.alloc w2 _ = W3 at hx2 hr3 hb3 ⊢
  clear hW3 hal hb1 hb2 hr1
  refine (Triangle_ok _ _ _ HO.out hr3).mono ?_
  rintro e w4 ⟨v4, rfl, hm4⟩
  rw [HN.out] at hm4
  have hr4 := hr3.below hm4.below
  have hb4 := hb3.trans (hm4.below.mono hb3.size)
  have hx4 := (hm4.below.block _ (heap_lt hx2)).trans hx2
  clear hr3 hb3 hx2
  go_wp2_with fail
  refine (Worst_any _ _ _ hr4).mono ?_
  rintro e w5 ⟨rfl, hb5⟩
  rw [HWS.out]
  have hm5 := hm4.step hb5
  have hr5 := hr4.below hb5
  have hb6 := hb4.trans (hb5.mono hb4.size)
  have hx5 := (hb5.block _ (heap_lt hx4)).trans hx4
  clear hm4 hr4 hb4 hx4 hb5
  have hal : Below w5.heap.size w5 (w5.alloc (.cells #[.int .i64 wb, .int .i64 wc] 31)) := (Below.refl _ _).alloc (Nat.le_refl _) _
  obtain ⟨ta, tc, hte, htc1, htc2, htcell⟩ := (hm5.step hal).open
  rw [HTL.out] at hte htcell htc1
  subst hte
  have HM8 := Lib.hid htcell
  have HR8 := Lib.hid (hr5.below hal)
  have HB8 := Lib.hid (hb6.trans (hal.mono hb6.size))
  have HX8 := Lib.hid ((hal.block _ (heap_lt hx5)).trans hx5)
  have t1 : (((n - 1 : Nat) : Int) != (n : Int) - 1) = false := by simp; omega
  have t2 : (bb != decide (wa ≤ 1)) = false := by rw [hcwb]; simp
  clear hm5 hr5 hb6 hx5 hal htcell htc2
  by_cases hw0 : wa = 0
  · have t3 : (wa != 0) = false := by simp [hw0]
    have HW0 := Lib.hid hw0
    clear hw0 hwat hwr
    go_wp2_with fail
    have hB9 := HB8.out
    have hX9 : (World.alloc w5 (.cells #[.int .i64 wb, .int .i64 wc] 31)).heap[w2.heap.size]? = some (.cells #[.int .i64 xa, .int .i64 xb, .int .i64 xc, .int .i64 xd] 24) ∧ True := ⟨HX8.out, trivial⟩
    have HR9 := HR8
    have HT9 := HM8
    generalize World.alloc w5 _ = W9 at hB9 hX9 HR9 HT9 ⊢
    clear HB8 HX8 HR8 HM8
    go_loopw [14, 15, 16, 17] (fun t i _ _ wr => ∃ (m : Nat) (b : Bool), m + 1 ≤ n ∧ i = .int .i64 m ∧ t = .bool b ∧ dupTo o m = b ∧ Below W9.heap.size W9 wr) (fun _ i _ _ _ => n - (intOf i).toNat)
    case atStart => exact ⟨0, false, by omega, rfl, rfl, rfl, Below.refl _ _⟩
    case round =>
      obtain ⟨m, b, hm, rfl, rfl, hdt, hbr⟩ := hrel
      have HDT := Lib.hid hdt
      clear hdt
      by_cases hmn : m + 1 < n
      · obtain ⟨tb, tr, rfl, htb, htc, htr⟩ := HT9.out m (by omega)
        obtain ⟨L, hL⟩ : ∃ L, n - (m + 1) = L := ⟨_, rfl⟩
        have hrow : (triL o (n - 1)).getD m [] = triRow o (m + 1) L := by
          unfold triL
          rw [List.getD_eq_getElem?_getD, List.getElem?_map, List.getElem?_range (by omega), ← hL, ← HN.out]; rfl
        rw [hrow] at htr
        obtain ⟨ra, rc, hre, hrc1, hrc2, hrcell⟩ := htr.reads.open
        rw [triRow_len] at hre hrc1 hrcell
        subst hre
        have htw := (hbr.cell (p := ⟨tb, m, none⟩) htb).trans htc
        have hlen : ((L : Int) != (n : Int) - 1 - (m : Int)) = false := by simp; omega
        have m0 : (0 : Int) ≤ (m : Int) := by omega
        have m1 : (m : Int) < ((n - 1 : Nat) : Int) := by omega
        have hLn : L ≤ 16 := by omega
        have HRC := Lib.hid hrcell
        have HLL := Lib.hid hL
        have HBR := Lib.hid hbr
        have HTC := Lib.hid htc
        clear hrow hrcell hrc2 hL hbr htc htr
        go_wp2_with fail
        obtain ⟨wo, rfl⟩ : ∃ wo : World, wo = wr := ⟨_, rfl⟩
        go_loopw [14, 16, 17] (fun t i _ wr => ∃ (k : Nat) (b' : Bool), k ≤ L ∧ i = .int .i64 k ∧ t = .bool b' ∧ (b || dupRow o (m + 1) k) = b' ∧ Below W9.heap.size W9 wr) (fun _ i _ _ => L - (intOf i).toNat)
        case atStart => exact ⟨0, b, by omega, rfl, rfl, by simp [dupRow], HBR.out⟩
        case round =>
          obtain ⟨k, b1, hk, rfl, rfl, hdr, hbr⟩ := hrel
          have HDR := Lib.hid hdr
          have htw := (hbr.cell (p := ⟨tb, m, none⟩) htb).trans HTC.out
          have HBR := Lib.hid hbr
          clear hdr hbr
          by_cases hkl : k < L
          · go_wp2_with fail
            obtain ⟨wo, rfl⟩ : ∃ wo : World, wo = wr := ⟨_, rfl⟩
            go_loopw [14, 17] (fun t i wr => ∃ (j : Nat) (b' : Bool), j ≤ k ∧ i = .int .i64 j ∧ t = .bool b' ∧ (b1 || dupAt o (m + 1) k j) = b' ∧ Below W9.heap.size W9 wr) (fun _ i _ => k - (intOf i).toNat)
            case atStart => exact ⟨0, b1, by omega, rfl, rfl, by simp [dupAt], HBR.out⟩
            case round =>
              obtain ⟨j, b2, hj, rfl, rfl, hda, hbr⟩ := hrel
              have HDA := Lib.hid hda
              have htw := (hbr.cell (p := ⟨tb, m, none⟩) htb).trans HTC.out
              have HBR := Lib.hid hbr
              clear hda
              by_cases hjk : j < k
              · have hsucc := dupAt_succ o (m + 1) k j
                obtain ⟨rb, ro, rfl, hrb, hrk⟩ := HRC.out k hkl
                obtain ⟨_, _, he, _, hrj⟩ := HRC.out j (by omega)
                cases he
                have hvk := (hbr.cell (p := ⟨rb, ro + k, none⟩) hrb).trans hrk
                have hvj := (hbr.cell (p := ⟨rb, ro + j, none⟩) hrb).trans hrj
                have gk : gi (triRow o (m + 1) L) k = gi o (m + 1 + k) - gi o k := by
                  rw [gi_lt (by rw [triRow_len]; exact hkl)]; simp [triRow]
                have gj : gi (triRow o (m + 1) L) j = gi o (m + 1 + j) - gi o j := by
                  rw [gi_lt (by rw [triRow_len]; omega)]; simp [triRow]
                rw [gk] at hvk
                rw [gj] at hvj
                generalize gi o (m + 1 + k) - gi o k = vk at *
                generalize gi o (m + 1 + j) - gi o j = vj at *
                have HSU := Lib.hid hsucc
                have j0 : (0 : Int) ≤ (j : Int) := by omega
                have j1 : (j : Int) < (L : Int) := by omega
                have k0 : (0 : Int) ≤ (k : Int) := by omega
                have k1 : (k : Int) < (L : Int) := by omega
                clear hrk hrj gk gj hsucc hbr
                cases b2
                · by_cases hee : vj = vk
                  · have he1 : (vj == vk) = true := by simp [hee]
                    have HE := Lib.hid hee
                    clear hee
                    go_wp2_with fail
                    refine wp_region_quiet_lit (by kernel_rfl) (by kernel_rfl) ?_
                    iterate 19 (first | go_big_quiet_step (fail) | quiet_step (fail))
                    refine wpQuiet_nil ?_
                    intro _ hw'
                    obtain ⟨nq, hw''⟩ := hw'
                    subst hw''
                    go_wp2_with fail
                    go_roundw
                    case rel => exact ⟨j + 1, true, by omega, by go_num, rfl, by rw [HSU.out, decide_eq_true HE.out]; simp, HBR.out.trans ((below_drewN _ _).mono HBR.out.size)⟩
                    case measure => simp [intOf]; omega
                  · have he1 : (vj == vk) = false := by simp [hee]
                    have HE := Lib.hid hee
                    clear hee
                    go_wp2_with fail
                    refine wp_region_quiet_lit (by kernel_rfl) (by kernel_rfl) ?_
                    iterate 19 (first | go_big_quiet_step (fail) | quiet_step (fail))
                    refine wpQuiet_nil ?_
                    intro _ hw'
                    obtain ⟨nq, hw''⟩ := hw'
                    subst hw''
                    go_wp2_with fail
                    go_roundw
                    case rel => exact ⟨j + 1, false, by omega, by go_num, rfl, by rw [HSU.out, decide_eq_false HE.out, Bool.or_false]; exact HDA.out, HBR.out.trans ((below_drewN _ _).mono HBR.out.size)⟩
                    case measure => simp [intOf]; omega
                · go_wp2_with fail
                  refine wp_region_quiet_lit (by kernel_rfl) (by kernel_rfl) ?_
                  iterate 19 (first | go_big_quiet_step (fail) | quiet_step (fail))
                  refine wpQuiet_nil ?_
                  intro _ hw'
                  obtain ⟨nq, hw''⟩ := hw'
                  subst hw''
                  go_wp2_with fail
                  go_roundw
                  case rel => exact ⟨j + 1, true, by omega, by go_num, rfl, by rw [HSU.out, ← Bool.or_assoc, HDA.out]; rfl, HBR.out.trans ((below_drewN _ _).mono HBR.out.size)⟩
                  case measure => simp [intOf]; omega
              · obtain rfl : j = k := by omega
                have hrs := dupRow_succ o (m + 1) j
                have HRS := Lib.hid hrs
                clear hrs hbr
                go_wp2_with fail
                go_roundw
                case rel => exact ⟨j + 1, b2, by omega, by go_num, rfl, by rw [HRS.out, ← Bool.or_assoc, HDR.out]; exact HDA.out, HBR.out⟩
                case measure => simp [intOf]; omega
          · obtain rfl : k = L := by omega
            have hts := dupTo_succ o m
            have HTS := Lib.hid hts
            clear hts
            go_wp2_with fail
            go_roundw
            case rel => exact ⟨m + 1, b1, by omega, by go_num, rfl, by rw [HTS.out, HDT.out, HN.out, HLL.out]; exact HDR.out, HBR.out⟩
            case measure => simp [intOf]; omega
      · have hme : m = n - 1 := by omega
        have hbb : b = !bb := by rw [← HDT.out, hme, ← HN.out, dup_clear, HBB.out]
        have h1 := hX9.1
        have hcells := (hbr.block _ (heap_lt h1)).trans h1
        have x0 := cell_of hcells (j := 0) (v := .int .i64 xa) rfl
        have x1 := cell_of hcells (j := 1) (v := .int .i64 xb) rfl
        have x2 := cell_of hcells (j := 2) (v := .int .i64 xc) rfl
        have x3 := cell_of hcells (j := 3) (v := .int .i64 xd) rfl
        have hb9 := hB9.trans (hbr.mono hB9.size)
        subst hbb
        cases bb
        · exact absurd hcwb (by rw [HW0.out]; decide)
        · have hz := HZZ.out rfl
          obtain ⟨rfl, rfl, rfl, rfl⟩ := hz
          have hne : ∀ w, (binOp .eql 24 (.agg #[.int .i64 0, .int .i64 0, .int .i64 0, .int .i64 0]) (.agg #[.int .i64 0, .int .i64 0, .int .i64 0, .int .i64 0])).run Try.prog w = .ok (.bool true) w := fun w => by kernel_rfl
          clear hbr hme
          go_wp2_with (go_at_call 9; refine (awake_any _).mono ?_; rintro e w6 ⟨rfl, hb6⟩)
          go_ret
          exact ⟨rfl, hb9.trans (hb6.mono hb9.size)⟩
  · have t3 : (wa != 0) = true := by simp [hw0]
    have hwe : wa = (meetN o wb wc n : Int) := by
      rcases hwat with h | h
      · exact absurd h hw0
      · exact h
    have HWE := Lib.hid hwe
    have t4 : (wa != (meetN o wb wc n : Int)) = false := by simp [hwe]
    have HT4 := Lib.hid t4
    have hwr2 : -9223372036854775808 ≤ wb ∧ wb ≤ 9223372036854775807 ∧ -9223372036854775808 ≤ wc ∧ wc ≤ 9223372036854775807 := by
      rcases hwr with h | h
      · exact absurd h.2.2 hw0
      · omega
    have HW0 := Lib.hid hw0
    have HWR := Lib.hid hwr2
    clear hw0 hwat hwr hwe t4 hwr2
    go_wp2_with fail
    refine (refMeeting_any _ o _ _ _ HR8.out HO.out ⟨HWR.out.1, HWR.out.2.1⟩ ⟨HWR.out.2.2.1, HWR.out.2.2.2⟩).mono ?_
    rintro e w8 ⟨rfl, m8, rfl⟩
    rw [HN.out, ← HWE.out]
    have hbq := below_drewN (World.alloc w5 (.cells #[.int .i64 wb, .int .i64 wc] 31)) m8
    have hB9 := HB8.out.trans (hbq.mono HB8.out.size)
    have hX9 : ((World.alloc w5 (.cells #[.int .i64 wb, .int .i64 wc] 31)).drewN m8).heap[w2.heap.size]? = some (.cells #[.int .i64 xa, .int .i64 xb, .int .i64 xc, .int .i64 xd] 24) ∧ True := ⟨(hbq.block _ (heap_lt HX8.out)).trans HX8.out, trivial⟩
    have HR9 := Lib.hid (HR8.out.below hbq)
    have HT9 := Lib.hid (MCells.below HM8.out hbq)
    generalize World.drewN _ m8 = W9 at hB9 hX9 HR9 HT9 ⊢
    clear HB8 HX8 HR8 HM8 hbq HWE HWR HT4
    go_wp2_with fail
    go_loopw [14, 15, 16, 17] (fun t i _ _ wr => ∃ (m : Nat) (b : Bool), m + 1 ≤ n ∧ i = .int .i64 m ∧ t = .bool b ∧ dupTo o m = b ∧ Below W9.heap.size W9 wr) (fun _ i _ _ _ => n - (intOf i).toNat)
    case atStart => exact ⟨0, false, by omega, rfl, rfl, rfl, Below.refl _ _⟩
    case round =>
      obtain ⟨m, b, hm, rfl, rfl, hdt, hbr⟩ := hrel
      have HDT := Lib.hid hdt
      clear hdt
      by_cases hmn : m + 1 < n
      · obtain ⟨tb, tr, rfl, htb, htc, htr⟩ := HT9.out m (by omega)
        obtain ⟨L, hL⟩ : ∃ L, n - (m + 1) = L := ⟨_, rfl⟩
        have hrow : (triL o (n - 1)).getD m [] = triRow o (m + 1) L := by
          unfold triL
          rw [List.getD_eq_getElem?_getD, List.getElem?_map, List.getElem?_range (by omega), ← hL, ← HN.out]; rfl
        rw [hrow] at htr
        obtain ⟨ra, rc, hre, hrc1, hrc2, hrcell⟩ := htr.reads.open
        rw [triRow_len] at hre hrc1 hrcell
        subst hre
        have htw := (hbr.cell (p := ⟨tb, m, none⟩) htb).trans htc
        have hlen : ((L : Int) != (n : Int) - 1 - (m : Int)) = false := by simp; omega
        have m0 : (0 : Int) ≤ (m : Int) := by omega
        have m1 : (m : Int) < ((n - 1 : Nat) : Int) := by omega
        have hLn : L ≤ 16 := by omega
        have HRC := Lib.hid hrcell
        have HLL := Lib.hid hL
        have HBR := Lib.hid hbr
        have HTC := Lib.hid htc
        clear hrow hrcell hrc2 hL hbr htc htr
        go_wp2_with fail
        obtain ⟨wo, rfl⟩ : ∃ wo : World, wo = wr := ⟨_, rfl⟩
        go_loopw [14, 16, 17] (fun t i _ wr => ∃ (k : Nat) (b' : Bool), k ≤ L ∧ i = .int .i64 k ∧ t = .bool b' ∧ (b || dupRow o (m + 1) k) = b' ∧ Below W9.heap.size W9 wr) (fun _ i _ _ => L - (intOf i).toNat)
        case atStart => exact ⟨0, b, by omega, rfl, rfl, by simp [dupRow], HBR.out⟩
        case round =>
          obtain ⟨k, b1, hk, rfl, rfl, hdr, hbr⟩ := hrel
          have HDR := Lib.hid hdr
          have htw := (hbr.cell (p := ⟨tb, m, none⟩) htb).trans HTC.out
          have HBR := Lib.hid hbr
          clear hdr hbr
          by_cases hkl : k < L
          · go_wp2_with fail
            obtain ⟨wo, rfl⟩ : ∃ wo : World, wo = wr := ⟨_, rfl⟩
            go_loopw [14, 17] (fun t i wr => ∃ (j : Nat) (b' : Bool), j ≤ k ∧ i = .int .i64 j ∧ t = .bool b' ∧ (b1 || dupAt o (m + 1) k j) = b' ∧ Below W9.heap.size W9 wr) (fun _ i _ => k - (intOf i).toNat)
            case atStart => exact ⟨0, b1, by omega, rfl, rfl, by simp [dupAt], HBR.out⟩
            case round =>
              obtain ⟨j, b2, hj, rfl, rfl, hda, hbr⟩ := hrel
              have HDA := Lib.hid hda
              have htw := (hbr.cell (p := ⟨tb, m, none⟩) htb).trans HTC.out
              have HBR := Lib.hid hbr
              clear hda
              by_cases hjk : j < k
              · have hsucc := dupAt_succ o (m + 1) k j
                obtain ⟨rb, ro, rfl, hrb, hrk⟩ := HRC.out k hkl
                obtain ⟨_, _, he, _, hrj⟩ := HRC.out j (by omega)
                cases he
                have hvk := (hbr.cell (p := ⟨rb, ro + k, none⟩) hrb).trans hrk
                have hvj := (hbr.cell (p := ⟨rb, ro + j, none⟩) hrb).trans hrj
                have gk : gi (triRow o (m + 1) L) k = gi o (m + 1 + k) - gi o k := by
                  rw [gi_lt (by rw [triRow_len]; exact hkl)]; simp [triRow]
                have gj : gi (triRow o (m + 1) L) j = gi o (m + 1 + j) - gi o j := by
                  rw [gi_lt (by rw [triRow_len]; omega)]; simp [triRow]
                rw [gk] at hvk
                rw [gj] at hvj
                generalize gi o (m + 1 + k) - gi o k = vk at *
                generalize gi o (m + 1 + j) - gi o j = vj at *
                have HSU := Lib.hid hsucc
                have j0 : (0 : Int) ≤ (j : Int) := by omega
                have j1 : (j : Int) < (L : Int) := by omega
                have k0 : (0 : Int) ≤ (k : Int) := by omega
                have k1 : (k : Int) < (L : Int) := by omega
                clear hrk hrj gk gj hsucc hbr
                cases b2
                · by_cases hee : vj = vk
                  · have he1 : (vj == vk) = true := by simp [hee]
                    have HE := Lib.hid hee
                    clear hee
                    go_wp2_with fail
                    refine wp_region_quiet_lit (by kernel_rfl) (by kernel_rfl) ?_
                    iterate 19 (first | go_big_quiet_step (fail) | quiet_step (fail))
                    refine wpQuiet_nil ?_
                    intro _ hw'
                    obtain ⟨nq, hw''⟩ := hw'
                    subst hw''
                    go_wp2_with fail
                    go_roundw
                    case rel => exact ⟨j + 1, true, by omega, by go_num, rfl, by rw [HSU.out, decide_eq_true HE.out]; simp, HBR.out.trans ((below_drewN _ _).mono HBR.out.size)⟩
                    case measure => simp [intOf]; omega
                  · have he1 : (vj == vk) = false := by simp [hee]
                    have HE := Lib.hid hee
                    clear hee
                    go_wp2_with fail
                    refine wp_region_quiet_lit (by kernel_rfl) (by kernel_rfl) ?_
                    iterate 19 (first | go_big_quiet_step (fail) | quiet_step (fail))
                    refine wpQuiet_nil ?_
                    intro _ hw'
                    obtain ⟨nq, hw''⟩ := hw'
                    subst hw''
                    go_wp2_with fail
                    go_roundw
                    case rel => exact ⟨j + 1, false, by omega, by go_num, rfl, by rw [HSU.out, decide_eq_false HE.out, Bool.or_false]; exact HDA.out, HBR.out.trans ((below_drewN _ _).mono HBR.out.size)⟩
                    case measure => simp [intOf]; omega
                · go_wp2_with fail
                  refine wp_region_quiet_lit (by kernel_rfl) (by kernel_rfl) ?_
                  iterate 19 (first | go_big_quiet_step (fail) | quiet_step (fail))
                  refine wpQuiet_nil ?_
                  intro _ hw'
                  obtain ⟨nq, hw''⟩ := hw'
                  subst hw''
                  go_wp2_with fail
                  go_roundw
                  case rel => exact ⟨j + 1, true, by omega, by go_num, rfl, by rw [HSU.out, ← Bool.or_assoc, HDA.out]; rfl, HBR.out.trans ((below_drewN _ _).mono HBR.out.size)⟩
                  case measure => simp [intOf]; omega
              · obtain rfl : j = k := by omega
                have hrs := dupRow_succ o (m + 1) j
                have HRS := Lib.hid hrs
                clear hrs hbr
                go_wp2_with fail
                go_roundw
                case rel => exact ⟨j + 1, b2, by omega, by go_num, rfl, by rw [HRS.out, ← Bool.or_assoc, HDR.out]; exact HDA.out, HBR.out⟩
                case measure => simp [intOf]; omega
          · obtain rfl : k = L := by omega
            have hts := dupTo_succ o m
            have HTS := Lib.hid hts
            clear hts
            go_wp2_with fail
            go_roundw
            case rel => exact ⟨m + 1, b1, by omega, by go_num, rfl, by rw [HTS.out, HDT.out, HN.out, HLL.out]; exact HDR.out, HBR.out⟩
            case measure => simp [intOf]; omega
      · have hme : m = n - 1 := by omega
        have hbb : b = !bb := by rw [← HDT.out, hme, ← HN.out, dup_clear, HBB.out]
        have h1 := hX9.1
        have hcells := (hbr.block _ (heap_lt h1)).trans h1
        have x0 := cell_of hcells (j := 0) (v := .int .i64 xa) rfl
        have x1 := cell_of hcells (j := 1) (v := .int .i64 xb) rfl
        have x2 := cell_of hcells (j := 2) (v := .int .i64 xc) rfl
        have x3 := cell_of hcells (j := 3) (v := .int .i64 xd) rfl
        have hb9 := hB9.trans (hbr.mono hB9.size)
        subst hbb
        cases bb
        · obtain ⟨i1, j1, k1, l1, rfl, rfl, rfl, rfl, f1, f2, f3, f4, f5, f6, f7⟩ := HFF.out rfl
          obtain ⟨_, _, hge, _, _, hcell⟩ := (HR9.out.below hbr).open
          rw [HN.out] at hge hcell
          cases hge
          obtain ⟨_, _, e1, hgl, c1⟩ := hcell i1 (by omega)
          cases e1
          obtain ⟨_, _, e1, _, c2⟩ := hcell j1 (by omega)
          cases e1
          obtain ⟨_, _, e1, _, c3⟩ := hcell k1 (by omega)
          cases e1
          obtain ⟨_, _, e1, _, c4⟩ := hcell l1 (by omega)
          cases e1
          rw [Nat.zero_add] at c1 c2 c3 c4
          have HS9 := Lib.hid (fun q => HRNG.out q)
          obtain ⟨r1, r1'⟩ := HRNG.out i1
          obtain ⟨r2, r2'⟩ := HRNG.out j1
          obtain ⟨r3, r3'⟩ := HRNG.out k1
          obtain ⟨r4, r4'⟩ := HRNG.out l1
          have z1 : IntKind.i64.wrap ((j1 : Int) - (i1 : Int)) = (j1 : Int) - (i1 : Int) := IntWalk.i64_in _ (by omega)
          have z2 : IntKind.i64.wrap ((l1 : Int) - (k1 : Int)) = (l1 : Int) - (k1 : Int) := IntWalk.i64_in _ (by omega)
          have z3 : IntKind.i64.wrap (gi o j1 - gi o i1) = gi o j1 - gi o i1 := IntWalk.i64_in _ (by omega)
          have z4 : IntKind.i64.wrap (gi o l1 - gi o k1) = gi o l1 - gi o k1 := IntWalk.i64_in _ (by omega)
          have q1 : decide ((i1 : Int) < (j1 : Int)) = true := decide_eq_true (by omega)
          have q1' : decide (i1 < j1) = true := decide_eq_true (by omega)
          have q2 : decide (i1 < k1) = true := decide_eq_true (by omega)
          have q3 : decide (k1 < l1) = true := decide_eq_true (by omega)
          have q4 : decide (l1 < n) = true := decide_eq_true (by omega)
          have q5 : decide (j1 < n) = true := decide_eq_true (by omega)
          have q6 : ((j1 : Int) - (i1 : Int) == (l1 : Int) - (k1 : Int)) = true := by rw [beq_iff_eq]; exact f6
          have q7 : (gi o j1 - gi o i1 == gi o l1 - gi o k1) = true := by rw [beq_iff_eq]; exact f7
          have a0 : (0 : Int) ≤ (i1 : Int) := by omega
          have a1 : (i1 : Int) < (n : Int) := by omega
          have a2 : (0 : Int) ≤ (j1 : Int) := by omega
          have a3 : (j1 : Int) < (n : Int) := by omega
          have a4 : (0 : Int) ≤ (k1 : Int) := by omega
          have a5 : (k1 : Int) < (n : Int) := by omega
          have a6 : (0 : Int) ≤ (l1 : Int) := by omega
          have a7 : (l1 : Int) < (n : Int) := by omega
          have HB9 := Lib.hid hb9
          clear hcell hbr hme f1 f2 f3 f4 f5 f6 f7 hb9
          go_wp2_with fail
          have hl := heap_lt hcells
          go_region_held3 (fun w' => w'.cell? ⟨w2.heap.size, 0, none⟩ = some (.int .i64 i1) ∧ w'.cell? ⟨w2.heap.size, 1, none⟩ = some (.int .i64 j1) ∧ w'.cell? ⟨w2.heap.size, 2, none⟩ = some (.int .i64 k1) ∧ w'.cell? ⟨w2.heap.size, 3, none⟩ = some (.int .i64 l1) ∧
              w'.cell? ⟨g, i1, none⟩ = some (.int .i64 (gi o i1)) ∧ w'.cell? ⟨g, j1, none⟩ = some (.int .i64 (gi o j1)) ∧ w'.cell? ⟨g, k1, none⟩ = some (.int .i64 (gi o k1)) ∧ w'.cell? ⟨g, l1, none⟩ = some (.int .i64 (gi o l1)))
            (first | go_keep | exact ⟨(hb6.cell (p := ⟨w2.heap.size, 0, none⟩) hl).trans x0, (hb6.cell (p := ⟨w2.heap.size, 1, none⟩) hl).trans x1, (hb6.cell (p := ⟨w2.heap.size, 2, none⟩) hl).trans x2, (hb6.cell (p := ⟨w2.heap.size, 3, none⟩) hl).trans x3,
              (hb6.cell (p := ⟨g, i1, none⟩) hgl).trans c1, (hb6.cell (p := ⟨g, j1, none⟩) hgl).trans c2, (hb6.cell (p := ⟨g, k1, none⟩) hgl).trans c3, (hb6.cell (p := ⟨g, l1, none⟩) hgl).trans c4⟩)
            (first | (go_at_call 9; refine (awake_any _).mono ?_; rintro e w6 ⟨rfl, hb6⟩))
          go_wp2
          go_ret
          exact ⟨rfl, Below.trans HB9.out.drew (hb6.mono HB9.out.drew.size)⟩
        · have hz := HZZ.out rfl
          obtain ⟨rfl, rfl, rfl, rfl⟩ := hz
          have hne : ∀ w, (binOp .eql 24 (.agg #[.int .i64 0, .int .i64 0, .int .i64 0, .int .i64 0]) (.agg #[.int .i64 0, .int .i64 0, .int .i64 0, .int .i64 0])).run Try.prog w = .ok (.bool true) w := fun w => by kernel_rfl
          clear hbr hme
          go_wp2_with (go_at_call 9; refine (awake_any _).mono ?_; rintro e w6 ⟨rfl, hb6⟩)
          go_ret
          exact ⟨rfl, hb9.trans (hb6.mono hb9.size)⟩
end Go.Proofs.Ytdhamfbkjbgcaaa
