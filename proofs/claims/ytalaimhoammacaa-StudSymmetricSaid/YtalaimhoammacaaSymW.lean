/- StudSymmetric. -/
import Derived.Test.YtalaimhoammacaaSymLaw
import Derived.Test.YtalaimhoammacaaTurn
import Derived.Test.YtalaimhoammacaaTame
import Derived.Test.YtalaimhoammacaaRNext
import Derived.Test.YtalaimhoammacaaROrd
import Derived.Test.YtalaimhoammacaaLens
import Derived.Test.YtalaimhoammacaaAwake
set_option linter.unusedVariables false
set_option linter.unusedSimpArgs false
namespace Go.Proofs.Ytalaimhoammacaa
open Go.RowKit

theorem clear_form {xs : List Int} (ho : ordB xs = true) {bb : Bool} (hb : clearB xs = bb) : ∃ (a b c d : Int), clearS xs = .tuple #[.agg #[.int .i64 a, .int .i64 b, .int .i64 c, .int .i64 d], .bool bb, .int .i64 0] := by
  unfold clearS
  rw [ho]
  rcases hf : firstClash xs with _ | ⟨p, q⟩
  · exact ⟨0, 0, 0, 0, by rw [← hb, firstClash_iff.1 hf]; rfl⟩
  · have hc : clearB xs = false := by
      rcases h : clearB xs with _ | _
      · rfl
      · rw [← firstClash_iff, hf] at h; cases h
    exact ⟨p.1, p.2, q.1, q.2, by rw [← hb, hc]; rfl⟩
theorem before_c (v u : Value) (xs ys : List Int) (b : Bool) (w : World) (hr : Reads w v xs) (hs : Reads w u ys) (hl : xs.length = ys.length) (hb : ltB xs ys = b) :
    Calls Try.prog 12 #[v, u] w fun e w' => e = .returned (.bool b) ∧ ∃ n, w' = w.drewN n :=
  (before_any v u xs ys w hr hs hl).mono fun e w' ⟨h1, h2⟩ => ⟨by rw [h1, hb], h2⟩
theorem div8 {m : Nat} (h1 : 1 ≤ m) (h2 : m ≤ 8) (h : 8 % m = 0) : m = 1 ∨ m = 2 ∨ m = 4 ∨ m = 8 := by
  have e : m = 1 ∨ m = 2 ∨ m = 3 ∨ m = 4 ∨ m = 5 ∨ m = 6 ∨ m = 7 ∨ m = 8 := by omega
  rcases e with rfl | rfl | rfl | rfl | rfl | rfl | rfl | rfl <;> simp_all

set_option maxRecDepth 100000 in
set_option maxHeartbeats 6400000 in
theorem StudSymmetric_walk (x : Int) (sl : Value) (ls : List Int) (s : Int) (w : World) (wx : -9223372036854775808 ≤ x ∧ x ≤ 9223372036854775807) (hr : Reads w sl ls) (hx : ∀ x ∈ ls, -9223372036854775808 ≤ x ∧ x ≤ 9223372036854775807) (ws : -9223372036854775808 ≤ s ∧ s ≤ 9223372036854775807) :
    Calls Try.prog 3 #[.int .i64 x, sl, .int .i64 s] w fun e w' => e = .returned (.bool true) ∧ Below w.heap.size w w' := by
  clear hx wx ws
  obtain ⟨t, ht⟩ : ∃ t : Nat, modN s 8 = t := ⟨(modN s 8).toNat, by have := modN_rng s (n := 8) (by omega); omega⟩
  have ht2 : t < 8 := by have := modN_rng s (n := 8) (by omega); omega
  have HT := Lib.hid ht
  clear ht
  go_enter Try.func3, Try.ntmps3
  go_wp2_with fail
  refine (tame_any x _ ls 16 _ hr (by omega) (by omega)).mono ?_
  rintro e w1 ⟨l, o, rfl, hne, hcol, ho, hl⟩
  obtain ⟨g, cap, rfl⟩ := hcol.some hne
  have hb1 := hcol.below
  have hr1 := hcol.reads
  have ho1 := hcol.row.mono (Nat.zero_le _)
  obtain ⟨hl1, hl2⟩ := ordB_len ho
  have hot := turnL_ord ho t
  obtain ⟨ca, cb, cc, cd, hcf⟩ := clear_form ho rfl
  obtain ⟨da, db, dc, dd, hdf⟩ := clear_form hot (clear_turn ho ht2)
  obtain ⟨wa, wb, wc, hws, hwl⟩ := worst_ex ho
  obtain ⟨va, vb, vc, hvs, hvl⟩ := worst_ex hot
  have hwv := worst_turn ho ht2
  rw [hwl, hvl] at hwv
  simp only at hwv
  subst hwv
  have hm1 := many_turn ho ht2
  have hm2 := many_div ho
  have hm3 := distTo_len o 8
  have hm4 := distTo_pos o 7
  have hf1 : firstS o = (firstL o, (((distTo o 8).length : Nat) : Int), 0) := by unfold firstS; rw [ho]; rfl
  have hf2 : firstS (turnL o t) = (firstL o, (((distTo o 8).length : Nat) : Int), 0) := by unfold firstS; rw [hot, first_turn ho ht2, hm1]; rfl
  have hlb : ltB o (firstL o) = false := first_least o (j := 0) (by omega)
  have hfl := firstL_len o
  have htl := turn_len o t
  obtain ⟨mm, hmm⟩ : ∃ mm, (distTo o 8).length = mm := ⟨_, rfl⟩
  rw [hmm] at hf1 hf2 hm2 hm3 hm4
  have hmd := div8 hm4 hm3 hm2
  generalize hn : o.length = n at *
  have HO := Lib.hid ho
  have HOT := Lib.hid hot
  have HCF := Lib.hid hcf
  have HDF := Lib.hid hdf
  have HWS := Lib.hid hws
  have HVS := Lib.hid hvs
  have HF1 := Lib.hid hf1
  have HF2 := Lib.hid hf2
  have HLB := Lib.hid hlb
  have HFL := Lib.hid hfl
  have HTL := Lib.hid htl
  have HN := Lib.hid hn
  have HMD := Lib.hid hmd
  clear hcol hne ho hr hl hot hcf hdf hws hvs hwl hvl hm1 hm2 hm3 hm4 hf1 hf2 hlb hfl htl hmm hn hmd
  go_wp2_with (go_at_call 6; refine (mod_any _ _ _ (by omega) (by omega)).mono ?_; rintro e w' ⟨rfl, rfl⟩; rw [HT.out])
  refine (Turn_ok _ _ t _ hr1 HO.out (by omega)).mono ?_
  rintro e w2 ⟨v2, rfl, hc2⟩
  have hr2 := hc2.reads
  have ho2 := hc2.row.mono (Nat.zero_le _)
  obtain ⟨xa, xc, hv2⟩ := reads_len hr2
  rw [HTL.out] at hv2
  subst hv2
  have hb2 := hb1.trans (hc2.below.mono hb1.size)
  have hr1' := hr1.below hc2.below
  have ho1' := ho1.below hc2.below
  clear hc2 hb1 hr1 ho1
  go_wp2_with fail
  refine (refOrder_any _ _ _ hr2).mono ?_
  rintro e w3 ⟨rfl, m3, rfl⟩
  rw [HOT.out]
  have hdr := below_drewN w2 m3
  have hb3 := hb2.trans (hdr.mono hb2.size)
  have ho3 := ho1'.below hdr
  have hx3 := ho2.below hdr
  generalize World.drewN w2 m3 = W3 at hb3 ho3 hx3 ⊢
  clear hb2 hr1' ho1' hr2 ho2 hdr
  go_wp2_with fail
  refine (Clear_any _ _ _ ho3.reads).mono ?_
  rintro e w4 ⟨rfl, hb4⟩
  rw [HCF.out]
  have hal : Below w4.heap.size w4 (w4.alloc (.cells #[.int .i64 ca, .int .i64 cb, .int .i64 cc, .int .i64 cd] 29)) := (Below.refl _ _).alloc (Nat.le_refl _) _
  have hb5 := (hb3.trans (hb4.mono hb3.size)).trans (hal.mono (hb3.trans (hb4.mono hb3.size)).size)
  have ho5 := (ho3.below hb4).below hal
  have hx5 := (hx3.below hb4).below hal
  clear hal hb3 hb4 ho3 hx3
  go_wp2_with fail
  generalize World.alloc w4 _ = W5 at hb5 ho5 hx5 ⊢
  refine (Clear_any _ _ _ hx5.reads).mono ?_
  rintro e w6 ⟨rfl, hb6⟩
  rw [HDF.out]
  have hal : Below w6.heap.size w6 (w6.alloc (.cells #[.int .i64 da, .int .i64 db, .int .i64 dc, .int .i64 dd] 29)) := (Below.refl _ _).alloc (Nat.le_refl _) _
  have hb7 := (hb5.trans (hb6.mono hb5.size)).trans (hal.mono (hb5.trans (hb6.mono hb5.size)).size)
  have ho7 := (ho5.below hb6).below hal
  have hx7 := (hx5.below hb6).below hal
  clear hal hb5 hb6 ho5 hx5
  go_wp2_with fail
  generalize World.alloc w6 _ = W7 at hb7 ho7 hx7 ⊢
  refine (Worst_any _ _ _ ho7.reads).mono ?_
  rintro e w8 ⟨rfl, hb8⟩
  rw [HWS.out]
  have hal : Below w8.heap.size w8 (w8.alloc (.cells #[.int .i64 wb, .int .i64 wc] 32)) := (Below.refl _ _).alloc (Nat.le_refl _) _
  have hb9 := (hb7.trans (hb8.mono hb7.size)).trans (hal.mono (hb7.trans (hb8.mono hb7.size)).size)
  have ho9 := (ho7.below hb8).below hal
  have hx9 := (hx7.below hb8).below hal
  clear hal hb7 hb8 ho7 hx7
  go_wp2_with fail
  generalize World.alloc w8 _ = W9 at hb9 ho9 hx9 ⊢
  refine (Worst_any _ _ _ hx9.reads).mono ?_
  rintro e w10 ⟨rfl, hb10⟩
  rw [HVS.out]
  have hal : Below w10.heap.size w10 (w10.alloc (.cells #[.int .i64 vb, .int .i64 vc] 32)) := (Below.refl _ _).alloc (Nat.le_refl _) _
  have hb11 := (hb9.trans (hb10.mono hb9.size)).trans (hal.mono (hb9.trans (hb10.mono hb9.size)).size)
  have ho11 := (ho9.below hb10).below hal
  have hx11 := (hx9.below hb10).below hal
  clear hal hb9 hb10 ho9 hx9
  go_wp2_with fail
  generalize World.alloc w10 _ = W11 at hb11 ho11 hx11 ⊢
  refine (First_any _ _ _ ho11).mono ?_
  rintro e w12 ⟨v12, rfl, hc12⟩
  rw [HF1.out] at hc12 ⊢
  simp only at hc12 ⊢
  have hp12 := hc12.reads
  obtain ⟨pa, pc, hv12⟩ := reads_len hp12
  rw [HFL.out] at hv12
  subst hv12
  have hb12 := hb11.trans (hc12.below.mono hb11.size)
  have ho12 := ho11.below hc12.below
  have hx12 := hx11.below hc12.below
  clear hc12 hb11 ho11 hx11
  go_wp2_with fail
  refine (First_any _ _ _ hx12).mono ?_
  rintro e w13 ⟨v13, rfl, hc13⟩
  rw [HF2.out] at hc13 ⊢
  simp only at hc13 ⊢
  have hq13 := hc13.reads
  obtain ⟨qa, qc, hv13⟩ := reads_len hq13
  rw [HFL.out] at hv13
  subst hv13
  have hb13 := hb12.trans (hc13.below.mono hb12.size)
  have ho13 := ho12.below hc13.below
  have hp13 := hp12.below hc13.below
  clear hc13 hb12 ho12 hx12 hp12
  rcases HMD.out with rfl | rfl | rfl | rfl
  all_goals
    go_wp2_with fail
    refine (ints_same _ _ _ _ hp13 hq13).mono ?_
    rintro e w14 ⟨rfl, m14, rfl⟩
    have hdr := below_drewN w13 m14
    have hb14 := hb13.trans (hdr.mono hb13.size)
    have ho14 := ho13.below hdr
    have hp14 := hp13.below hdr
    generalize World.drewN w13 m14 = W14 at hb14 ho14 hp14 ⊢
    go_wp2_with fail
    refine (before_c _ _ _ _ _ _ ho14.reads hp14 (by rw [HN.out, HFL.out]) HLB.out).mono ?_
    rintro e w15 ⟨rfl, m15, rfl⟩
    have hb15 := hb14.trans ((below_drewN W14 m15).mono hb14.size)
    generalize World.drewN W14 m15 = W15 at hb15 ⊢
    go_wp2_with (go_at_call 13; refine (awake_any _).mono ?_; rintro e w16 ⟨rfl, hb16⟩)
    go_ret
    exact ⟨rfl, hb15.trans (hb16.mono hb15.size)⟩
end Go.Proofs.Ytalaimhoammacaa
