/- StudCompleted. -/
import Derived.Test.YtekmmcbfbapjmaaBetweenLaw
set_option linter.unusedVariables false
set_option linter.unusedSimpArgs false
namespace Go.Proofs.Ytekmmcbfbapjmaa
open Go.RowKit

theorem refOrder_b (v : Value) (xs : List Int) (w : World) (hr : Reads w v xs) :
    Calls Try.prog 8 #[v] w fun e w' => e = .returned (.bool (ordB xs)) ∧ Below w.heap.size w w' :=
  (refOrder_any v xs w hr).mono fun e w' ⟨h1, m, h2⟩ => ⟨h1, by rw [h2]; exact below_drewN w m⟩
theorem ints_b (v u : Value) (xs ys : List Int) (w : World) (hr : Reads w v xs) (hs : Reads w u ys) (he : xs = ys) :
    Calls Try.prog 9 #[v, u] w fun e w' => e = .returned (.bool true) ∧ Below w.heap.size w w' := by
  subst he
  exact (ints_same v u xs w hr hs).mono fun e w' ⟨h1, m, h2⟩ => ⟨h1, by rw [h2]; exact below_drewN w m⟩
theorem Reads.takeN {w : World} {a : Option Addr} {cap n k : Nat} {xs : List Int} (h : Reads w (.slice a n cap) xs) (hn : xs.length = n) (hk : k ≤ n) : Reads w (.slice a k cap) (xs.take k) := by
  subst hn; exact h.take hk

set_option maxRecDepth 100000 in
set_option maxHeartbeats 3200000 in
theorem StudCompleted_walk (x : Int) (sl : Value) (ls : List Int) (u v : Int) (w : World) (wx : -9223372036854775808 ≤ x ∧ x ≤ 9223372036854775807) (hr : Reads w sl ls) (hx : ∀ x ∈ ls, -9223372036854775808 ≤ x ∧ x ≤ 9223372036854775807) (hu : -9223372036854775808 ≤ u ∧ u ≤ 9223372036854775807) (hv : -9223372036854775808 ≤ v ∧ v ≤ 9223372036854775807) :
    Calls Try.prog 3 #[.int .i64 x, sl, .int .i64 u, .int .i64 v] w fun e w' => e = .returned (.bool true) ∧ Below w.heap.size w w' := by
  clear hx wx hu hv
  go_enter Try.func3, Try.ntmps3
  go_wp2_with fail
  refine (tame_any x _ ls 7 _ hr (by omega) (by omega)).mono ?_
  rintro e w1 ⟨l, o, rfl, hne, hcol, ho, hl⟩
  obtain ⟨g, cap, rfl⟩ := hcol.some hne
  have hb1 := hcol.below
  have hr1 := hcol.reads
  have hl7 : o.length ≤ 7 := by omega
  have hl1 := (ordB_len ho).1
  have hor : rowsB o (o.length : Int) = true := by rw [ordB_rows] at ho; simp only [Bool.and_eq_true] at ho; exact ho.2.2
  generalize hn : o.length = n at *
  have hmr := modN_rng u (n := (n : Int) + 1) (by omega)
  obtain ⟨k, hk⟩ : ∃ k : Nat, modN u ((n : Int) + 1) = k := ⟨(modN u ((n : Int) + 1)).toNat, by omega⟩
  have hkn : k ≤ n := by omega
  obtain ⟨_, _, he1, hcap1, hcap2, _⟩ := hr1.open
  rw [hn] at he1 hcap1
  cases he1
  have k0 : (0 : Int) ≤ (k : Int) := by omega
  have k1 : (k : Int) ≤ (cap : Int) := by omega
  have hcm : cap ≤ 9223372036854775807 := by unfold maxLen at hcap2; omega
  have HN := Lib.hid hn
  have HK := Lib.hid hk
  have HOR := Lib.hid hor
  have htk : (o.take k).length = k := by simp; omega
  have HTK := Lib.hid htk
  have HRT : Hid (rowsB (o.take k) n = true) := Lib.hid (rowsB_prefix (List.take_prefix _ _) hor)
  clear hcol hne hr hl hk hmr hn hor ho hcap2 htk
  go_wp2_with fail
  refine (mod_any u ((n : Int) + 1) _ (by omega) (by omega)).mono ?_
  rintro e w' ⟨rfl, rfl⟩
  rw [HK.out]
  go_wp2_with fail
  refine (Complete_any _ _ _ _ (hr1.takeN HN.out hkn)).mono ?_
  rintro e w2 ⟨v2, rfl, hr2, hb2⟩
  have hr12 := hr1.below hb2
  have hb3 := hb1.trans (hb2.mono hb1.size)
  clear hr1 hb1 hb2
  rcases hcr : complR (o.take k) n with _ | row
  · have h1 := complS_none hl1 hl7 (by rw [HTK.out]; exact hkn) HRT.out hcr
    have h2 := complS_none hl1 hl7 (s := o) (by rw [HN.out]; exact Nat.le_refl n) HOR.out (compl_none hcr)
    have H2 := Lib.hid h2
    rw [h1] at hr2 ⊢
    obtain ⟨va, vc, rfl⟩ := reads_nil hr2
    clear h1 h2 hcr hr2
    go_wp2_with fail
    refine (Complete_any _ _ _ _ hr12).mono ?_
    rintro e w4 ⟨v4, rfl, hr4, hb4⟩
    rw [H2.out] at hr4 ⊢
    obtain ⟨ua, uc, rfl⟩ := reads_nil hr4
    have hb5 := hb3.trans (hb4.mono hb3.size)
    go_wp2_with (go_at_call 7; refine (awake_any _).mono ?_; rintro e w7 ⟨rfl, hb7⟩)
    go_ret
    exact ⟨rfl, hb5.trans (hb7.mono hb5.size)⟩
  · have h1 := complS_some hl1 hl7 (by rw [HTK.out]; exact hkn) HRT.out hcr
    rw [h1] at hr2 ⊢
    obtain ⟨hmem, hpre⟩ := complR_some hcr
    obtain ⟨hrows, hclear, hlen⟩ := allTo_rows _ _ _ hmem
    have hord := clear_ord hmem hl1 (by omega)
    have hpk : row.take k = o.take k := by
      rw [List.prefix_iff_eq_take, HTK.out] at hpre; exact hpre.symm
    have HPK := Lib.hid hpk
    have HROW := Lib.hid hrows
    have HCL := Lib.hid hclear
    have HLEN := Lib.hid hlen
    have HORD := Lib.hid hord
    have HSM := Lib.hid (small_of_rows (by omega) hrows)
    have hmr := modN_rng v (n := (n : Int) - (k : Int) + 1) (by omega)
    obtain ⟨q, hq⟩ : ∃ q : Nat, modN v ((n : Int) - (k : Int) + 1) = q := ⟨(modN v ((n : Int) - (k : Int) + 1)).toNat, by omega⟩
    obtain ⟨s, hs⟩ : ∃ s : Nat, k + q = s := ⟨_, rfl⟩
    have hsn : s ≤ n := by omega
    have hks : (k : Int) + (q : Int) = s := by omega
    have hown := compl_own hcr (k := s) (by rw [HTK.out]; omega)
    have h3 := complS_some hl1 hl7 (s := row.take s) (by simp; omega) (rowsB_prefix (List.take_prefix _ _) hrows) hown
    have H3 := Lib.hid h3
    have HQ := Lib.hid hq
    obtain ⟨va, vc, hve, hvc1, hvc2, _⟩ := hr2.open
    simp only at hve
    rw [hlen] at hve hvc1
    subst hve
    have hvm : vc ≤ 9223372036854775807 := by unfold maxLen at hvc2; omega
    have s0 : (0 : Int) ≤ (s : Int) := by omega
    have s1 : (s : Int) ≤ (vc : Int) := by omega
    have k2 : (k : Int) ≤ (vc : Int) := by omega
    have HR2 := Lib.hid hr2
    have HR12 := Lib.hid hr12
    clear h1 hcr hmem hpre hrows hclear hlen hord hpk hmr hq hs hown h3 hvc2 hr2 hr12
    go_wp2_with fail
    go_region_held3 (fun w' => True) (trivial)
      (first
        | (go_at_call 8; refine (refOrder_b _ _ _ (HR2.out.below (Below.refl _ _).drew)).mono ?_; rintro e wA ⟨rfl, hbA⟩; rw [HORD.out])
        | (go_at_call 9; refine (ints_b _ _ _ _ _ ((HR2.out.below ((Below.refl _ _).drew.trans hbA)).takeN HLEN.out hkn) ((HR12.out.below ((Below.refl _ _).drew.trans hbA)).takeN HN.out hkn) HPK.out).mono ?_; rintro e wB ⟨rfl, hbB⟩)
        | (go_at_call 10; refine (refIsClear_any _ _ _ HSM.out (by have := HLEN.out; omega) ((HR2.out.below ((Below.refl _ _).drew.trans hbA)).below hbB)).mono ?_; rintro e wC ⟨rfl, hbC⟩; rw [HCL.out]))
    have hb24 : Below w2.heap.size w2 wC := ((Below.refl _ _).drew.trans hbA).trans ((hbB.trans (hbC.mono hbB.size)).mono (by have := hbA.size; simpa using this))
    have hb4 := hb3.trans (hb24.mono hb3.size)
    have hr4 := HR2.out.below hb24
    clear hbA hbB hbC hb24 hb3
    go_wp2_with fail
    refine (mod_any v ((n : Int) - (k : Int) + 1) _ (by omega) (by omega)).mono ?_
    rintro e w' ⟨rfl, rfl⟩
    rw [HQ.out]
    go_wp2_with fail
    refine (Complete_any _ _ _ _ (hr4.takeN HLEN.out hsn)).mono ?_
    rintro e w5 ⟨v5, rfl, hr5, hb5⟩
    rw [H3.out] at hr5 ⊢
    have hr45 := hr4.below hb5
    have hb6 := hb4.trans (hb5.mono hb4.size)
    clear hr4 hb4 hb5
    go_wp2_with fail
    refine (ints_same _ _ row _ hr45 hr5).mono ?_
    rintro e w6 ⟨rfl, m6, rfl⟩
    have hb7 := hb6.trans ((below_drewN w5 m6).mono hb6.size)
    generalize World.drewN w5 m6 = W7 at hb7 ⊢
    go_wp2_with (go_at_call 7; refine (awake_any _).mono ?_; rintro e w8 ⟨rfl, hb8⟩)
    go_ret
    exact ⟨rfl, hb7.trans (hb8.mono hb7.size)⟩
end Go.Proofs.Ytekmmcbfbapjmaa
