/- StudBetween. -/
import Derived.Test.YtbkjdpdihnloeaaFirstLaw
import Derived.Test.YtbkjdpdihnloeaaTame
import Derived.Test.YtbkjdpdihnloeaaAwake
set_option linter.unusedVariables false
set_option linter.unusedSimpArgs false
namespace Go.Proofs.Ytbkjdpdihnloeaa
open Go.RowKit

theorem nextS_ok {o : List Int} (ho : ordB o = true) (h7 : o.length ≤ 7) : nextS o = ((nextL o).getD [], optE (nextL o) 6) := by unfold nextS; rw [ho, decide_eq_true h7]; rfl
theorem complS_some {s y : List Int} {n : Nat} (h1 : 1 ≤ n) (h7 : n ≤ 7) (hl : s.length ≤ n) (hr : rowsB s n = true) (h : complR s n = some y) : complS s n = (y, 0) := by
  rw [complS_ok (withinB_iff.2 ⟨by omega, by omega⟩) hl hr, compl_same hl hr, h]; rfl
theorem complS_none {s : List Int} {n : Nat} (h1 : 1 ≤ n) (h7 : n ≤ 7) (hl : s.length ≤ n) (hr : rowsB s n = true) (h : complR s n = none) : complS s n = ([], 6) := by
  rw [complS_ok (withinB_iff.2 ⟨by omega, by omega⟩) hl hr, compl_same hl hr, h]; rfl
theorem small_of_rows {xs : List Int} {n : Nat} (hn : n ≤ 1000) (h : rowsB xs n = true) : ∀ j, -1000000 ≤ gi xs j ∧ gi xs j ≤ 1000000 := fun j => by
  have := rows_small hn h j; omega

set_option maxRecDepth 100000 in
set_option maxHeartbeats 3200000 in
theorem StudBetween_walk (x : Int) (sl : Value) (ls : List Int) (u : Int) (w : World) (wx : -9223372036854775808 ≤ x ∧ x ≤ 9223372036854775807) (hr : Reads w sl ls) (hx : ∀ x ∈ ls, -9223372036854775808 ≤ x ∧ x ≤ 9223372036854775807) (hu : -9223372036854775808 ≤ u ∧ u ≤ 9223372036854775807) :
    Calls Try.prog 3 #[.int .i64 x, sl, .int .i64 u] w fun e w' => e = .returned (.bool true) ∧ Below w.heap.size w w' := by
  clear hx wx hu
  go_enter Try.func3, Try.ntmps3
  go_wp2_with fail
  refine (tame_any x _ ls 7 _ hr (by omega) (by omega)).mono ?_
  rintro e w1 ⟨l, o, rfl, hne, hcol, ho, hl⟩
  obtain ⟨g, cap, rfl⟩ := hcol.some hne
  have hb1 := hcol.below
  have hr1 := hcol.reads
  have hl7 : o.length ≤ 7 := by omega
  have hl1 := (ordB_len ho).1
  have hns := nextS_ok ho hl7
  have HNS := Lib.hid hns
  clear hcol hne hns hr hl
  go_wp2_with fail
  refine (Next_any _ _ _ hr1).mono ?_
  rintro e w2 ⟨v, rfl, hrv, hb2⟩
  rw [HNS.out] at hrv ⊢
  have hr2 := hr1.below hb2
  have hb3 := hb1.trans (hb2.mono hb1.size)
  clear hr1 hb1 hb2 HNS
  rcases hnl : nextL o with _ | row
  · rw [hnl] at hrv
    have hoe : optE (none : Option (List Int)) 6 = 6 := rfl
    rw [hoe]
    obtain ⟨va, vc, rfl⟩ := reads_nil hrv
    clear hnl
    go_wp2_with (go_at_call 6; refine (awake_any _).mono ?_; rintro e w7 ⟨rfl, hb7⟩)
    go_ret
    exact ⟨rfl, hb3.trans (hb7.mono hb3.size)⟩
  · rw [hnl] at hrv
    have hoe : optE (some row) 6 = 0 := rfl
    rw [hoe]
    simp only [Option.getD_some] at hrv ⊢
    obtain ⟨hmem, hlt⟩ := nextL_some hnl
    obtain ⟨hrows, hclear, hlen⟩ := allTo_rows _ _ _ hmem
    have hord := clear_ord hmem hl1 (by omega)
    have HBT := fun k => between (k := k) hnl
    generalize hn : o.length = n at *
    have HBT' := Lib.hid HBT
    have HROW := Lib.hid hrows
    have HCL := Lib.hid hclear
    have HLEN := Lib.hid hlen
    have HORD := Lib.hid hord
    have HLT := Lib.hid hlt
    have HN := Lib.hid hn
    have HSM := Lib.hid (small_of_rows (by omega) hrows)
    obtain ⟨va, vc, hve, hvc1, hvc2, hvc⟩ := hrv.open
    rw [hlen] at hve hvc1 hvc
    subst hve
    clear hoe hnl hmem hrows hclear hord hlt HBT hlen hn
    go_wp2_with fail
    refine (refOrder_any _ _ _ hrv).mono ?_
    rintro e w3 ⟨rfl, m3, rfl⟩
    rw [HORD.out]
    have hr3 := hr2.below (below_drewN w2 m3)
    have hrv3 := hrv.below (below_drewN w2 m3)
    have hb4 := hb3.trans ((below_drewN w2 m3).mono hb3.size)
    generalize World.drewN w2 m3 = W3 at hr3 hrv3 hb4 ⊢
    clear hr2 hrv hb3
    go_wp2_with fail
    refine (before_any _ _ o row _ hr3 hrv3 (by rw [HN.out, HLEN.out])).mono ?_
    rintro e w4 ⟨rfl, m4, rfl⟩
    rw [HLT.out]
    have hr4 := hr3.below (below_drewN W3 m4)
    have hrv4 := hrv3.below (below_drewN W3 m4)
    have hb5 := hb4.trans ((below_drewN W3 m4).mono hb4.size)
    generalize World.drewN W3 m4 = W4 at hr4 hrv4 hb5 ⊢
    clear hr3 hrv3 hb4
    go_wp2_with fail
    refine (refIsClear_any _ _ _ HSM.out (by have := HLEN.out; omega) hrv4).mono ?_
    rintro e w5 ⟨rfl, hbc⟩
    rw [HCL.out]
    have hr5 := hr4.below hbc
    have hrv5 := hrv4.below hbc
    have hb6 := hb5.trans (hbc.mono hb5.size)
    clear hr4 hrv4 hb5 hbc hvc
    obtain ⟨_, _, he1, _, _, hco⟩ := hr5.open
    rw [HN.out] at he1 hco
    cases he1
    obtain ⟨_, _, he2, _, _, hcv⟩ := hrv5.open
    rw [HLEN.out] at he2 hcv
    cases he2
    have HCO := Lib.hid hco
    have HCV := Lib.hid hcv
    have HR5 := Lib.hid hrv5
    clear hco hcv hr5 hrv5
    go_wp2_with fail
    go_loopw [10] (fun i wr => ∃ k m : Nat, k ≤ n ∧ i = .int .i64 k ∧ o.take k = row.take k ∧ wr = w5.drewN m) (fun i _ => n - (intOf i).toNat)
    case atStart => exact ⟨0, 0, by omega, rfl, by simp, rfl⟩
    case round =>
      obtain ⟨k, m, hk, rfl, ht, rfl⟩ := hrel
      have HT := Lib.hid ht
      clear ht
      by_cases hkn : k < n
      · obtain ⟨b, off, hae, hbb, hc⟩ := HCO.out k hkn
        cases hae
        rw [Nat.zero_add] at hc
        obtain ⟨b2, off2, rfl, hbb2, hc2⟩ := HCV.out k hkn
        have k0 : (0 : Int) ≤ (k : Int) := by omega
        have k1 : (k : Int) < (n : Int) := by omega
        by_cases he : gi o k = gi row k
        · have he' : (gi o k == gi row k) = true := by simp [he]
          have HE := Lib.hid he
          clear he
          go_wp2_with fail
          go_quiet (fail)
          go_wp2_with fail
          go_roundw
          case rel => exact ⟨k + 1, _, by omega, by go_num, take_eq_succ (by have := HN.out; omega) (by have := HLEN.out; omega) HT.out HE.out, by first | rfl | exact World.drewN_drewN ..⟩
          case measure => simp [intOf]; omega
        · have he' : (gi o k == gi row k) = false := by simp [he]
          have HE := Lib.hid he
          clear he
          have hmr := modN_rng u (n := (n : Int) + 1) (by omega)
          obtain ⟨q, hq⟩ : ∃ q : Nat, modN u ((n : Int) + 1) = q := ⟨(modN u ((n : Int) + 1)).toNat, by omega⟩
          have hqn : q ≤ n := by omega
          obtain ⟨y, hy1, hy2, hy3, hy4⟩ := HBT'.out q
          have hcs := complS_some hl1 hl7 (s := row.take q) (by simp; omega) (rowsB_prefix (List.take_prefix _ _) HROW.out) hy1
          have HCS := Lib.hid hcs
          have HY2 := Lib.hid hy2
          have HY3 := Lib.hid hy3
          have HY4 := Lib.hid (hy4 k hkn HT.out HE.out)
          have HQ := Lib.hid hq
          have q0 : (0 : Int) ≤ (q : Int) := by omega
          have q1 : (q : Int) ≤ (vc : Int) := by omega
          have hvcm : vc ≤ 9223372036854775807 := by unfold maxLen at hvc2; omega
          clear hy1 hy2 hy3 hy4 hcs hq hmr hvc2
          go_wp2_with fail
          go_quiet (fail)
          generalize hW6 : World.drewN (World.drewN w5 m) _ = W6
          have hbW6 : Below w5.heap.size w5 W6 := by rw [← hW6]; exact (below_drewN _ _).trans ((below_drewN _ _).mono (by simp))
          clear hW6 hc hc2
          have hrv6 := HR5.out.below hbW6
          have hb7 := hb6.trans (hbW6.mono hb6.size)
          go_wp2_with fail
          refine (mod_any u ((n : Int) + 1) _ (by omega) (by omega)).mono ?_
          rintro e w' ⟨rfl, rfl⟩
          rw [HQ.out]
          have hrt : Reads W6 (.slice (some ⟨b2, off2, none⟩) q vc) (row.take q) := by
            have h := hrv6
            rw [show n = row.length from HLEN.out.symm] at h
            exact h.take (by rw [HLEN.out]; exact hqn)
          go_wp2_with fail
          refine (Complete_any _ _ _ _ hrt).mono ?_
          rintro e w8 ⟨v8, rfl, hr8, hb8⟩
          rw [HCS.out] at hr8 ⊢
          have hrv8 := hrv6.below hb8
          have hb9 := hb7.trans (hb8.mono hb7.size)
          obtain ⟨ya, yc, hye⟩ := reads_len hr8
          rw [HY2.out] at hye
          subst hye
          clear hrv6 hb7 hb8 hrt
          go_wp2_with fail
          refine (before_any _ _ row y _ hrv8 hr8 (by rw [HY2.out, HLEN.out])).mono ?_
          rintro e w9 ⟨rfl, m9, rfl⟩
          rw [HY3.out]
          have hr10 := hr8.below (below_drewN w8 m9)
          have hrv10 := hrv8.below (below_drewN w8 m9)
          have hb10 := hb9.trans ((below_drewN w8 m9).mono hb9.size)
          generalize World.drewN w8 m9 = W10 at hr10 hrv10 hb10 ⊢
          clear hr8 hrv8 hb9
          by_cases hqk : q ≤ k
          · go_wp2_with (go_at_call 6; refine (awake_any _).mono ?_; rintro e w12 ⟨rfl, hb12⟩)
            go_ret
            exact ⟨rfl, hb10.trans (hb12.mono hb10.size)⟩
          · have hxy := HY4.out (by omega)
            rw [← hxy] at hr10
            clear hxy
            go_wp2_with fail
            refine (ints_same _ _ row _ hrv10 hr10).mono ?_
            rintro e w11 ⟨rfl, m11, rfl⟩
            have hb11 := hb10.trans ((below_drewN W10 m11).mono hb10.size)
            generalize World.drewN W10 m11 = W11 at hb11 ⊢
            go_wp2_with (go_at_call 6; refine (awake_any _).mono ?_; rintro e w12 ⟨rfl, hb12⟩)
            go_ret
            exact ⟨rfl, hb11.trans (hb12.mono hb11.size)⟩
      · exfalso
        have h := HT.out
        rw [List.take_of_length_le (by have := HN.out; omega), List.take_of_length_le (by have := HLEN.out; omega)] at h
        have h2 := HLT.out
        rw [h, ltB_irrefl] at h2; cases h2
end Go.Proofs.Ytbkjdpdihnloeaa
