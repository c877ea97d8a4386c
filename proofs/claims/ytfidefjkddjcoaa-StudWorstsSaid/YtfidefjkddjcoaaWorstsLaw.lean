/- StudWorsts. -/
import Derived.Test.YtfidefjkddjcoaaWorst
import Derived.Test.YtfidefjkddjcoaaRCorn
import Derived.Test.YtfidefjkddjcoaaROrd
import Derived.Test.YtfidefjkddjcoaaList
import Derived.Test.YtfidefjkddjcoaaLens
import Derived.Test.YtfidefjkddjcoaaAwake
import Derived.Test.YtfidefjkddjcoaaEqArr
set_option linter.unusedVariables false
set_option linter.unusedSimpArgs false
namespace Go.Proofs.Ytfidefjkddjcoaa
open Go.RowKit

set_option maxRecDepth 100000 in
set_option maxHeartbeats 3200000 in
theorem StudWorsts_walk (sl : Value) (xs : List Int) (w : World) (hr : Reads w sl xs) (hx : ∀ x ∈ xs, -9223372036854775808 ≤ x ∧ x ≤ 9223372036854775807) :
    Calls Try.prog 3 #[sl] w fun e w' => e = .returned (.bool true) ∧ Below w.heap.size w w' := by
  clear hx
  rcases ho : ordB (xs.take 17) with _ | _
  · have hc1 : worstS (xs.take 17) = .tuple #[.int .i64 0, .agg #[.int .i64 0, .int .i64 0], .int .i64 2] := by unfold worstS; rw [ho]; rfl
    have hc2 : cornS (xs.take 17) = ([], 2) := by unfold cornS; rw [ho]; rfl
    have HC1 := Lib.hid hc1
    have HC2 := Lib.hid hc2
    have HO := Lib.hid ho
    clear hc1 hc2 ho
    generalize hys : xs.take 17 = ys at *
    go_enter Try.func3, Try.ntmps3
    go_wp2_with fail
    refine (list_any _ xs _ hr).mono ?_
    rintro e w1 ⟨l, rfl, hcol⟩
    rw [hys] at hcol
    have hb1 := hcol.below
    have hr1 := hcol.reads
    clear hcol hr hys
    go_wp2_with fail
    refine (Worst_any _ _ _ hr1).mono ?_
    rintro e w2 ⟨rfl, hb2⟩
    rw [HC1.out]
    go_wp2_with fail
    have hx2 : (w2.alloc (.cells #[.int .i64 0, .int .i64 0] 24)).heap[w2.heap.size]? = some (.cells #[.int .i64 0, .int .i64 0] 24) := heap_alloc_new _ _
    have hal : Below w2.heap.size w2 (w2.alloc (.cells #[.int .i64 0, .int .i64 0] 24)) := (Below.refl _ _).alloc (Nat.le_refl _) _
    have hr3 := (hr1.below hb2).below hal
    have hb3 := (hb1.trans (hb2.mono hb1.size)).trans (hal.mono (hb1.trans (hb2.mono hb1.size)).size)
    generalize hW3 : World.alloc w2 _ = W3 at hx2 hr3 hb3 ⊢
    clear hW3 hal hb1 hb2 hr1
    refine (Corners_any _ _ _ hr3).mono ?_
    rintro e w4 ⟨v4, rfl, hm4⟩
    rw [HC2.out] at hm4 ⊢
    obtain ⟨ta, tc, rfl⟩ := reads_nil hm4.reads
    have hr4 := hr3.below hm4.below
    have hb4 := hb3.trans (hm4.below.mono hb3.size)
    have hx4 := (hm4.below.block _ (heap_lt hx2)).trans hx2
    clear hr3 hb3 hx2 hm4
    go_wp2_with fail
    refine (refOrder_any _ _ _ hr4).mono ?_
    rintro e w5 ⟨rfl, m5, rfl⟩
    rw [HO.out]
    have hb5 := hb4.trans ((below_drewN w4 m5).mono hb4.size)
    have hx5 := ((below_drewN w4 m5).block _ (heap_lt hx4)).trans hx4
    generalize World.drewN w4 m5 = W5 at hb5 hx5 ⊢
    clear hb4 hr4 hx4
    have x0 := cell_of hx5 (j := 0) rfl
    have x1 := cell_of hx5 (j := 1) rfl
    have hne : ∀ w, (binOp .eql 24 (.agg #[.int .i64 0, .int .i64 0]) (.agg #[.int .i64 0, .int .i64 0])).run Try.prog w = .ok (.bool true) w := fun w => by kernel_rfl
    go_wp2_with (go_at_call 8; refine (awake_any _).mono ?_; rintro e w6 ⟨rfl, hb6⟩)
    go_ret
    exact ⟨rfl, hb5.trans (hb6.mono hb5.size)⟩
  · obtain ⟨a, b, c, hc1, hc2⟩ := worst_ex ho
    obtain ⟨hl1, hl2⟩ := ordB_len ho
    have HC1 := Lib.hid hc1
    have HC2 := Lib.hid hc2
    by_cases h16 : (xs.take 17).length = 16
    · have hcn : cornS (xs.take 17) = ([], 2) := by unfold cornS; rw [decide_eq_true h16]; simp
      have HCN := Lib.hid hcn
      have HO := Lib.hid ho
      clear hc1 hc2 ho hl1 hl2 hcn
      generalize hys : xs.take 17 = ys at *
      have t16 : ((ys.length : Int) == 16) = true := by simp; omega
      have H16 := Lib.hid h16
      clear h16
      go_enter Try.func3, Try.ntmps3
      go_wp2_with fail
      refine (list_any _ xs _ hr).mono ?_
      rintro e w1 ⟨l, rfl, hcol⟩
      rw [hys] at hcol
      have hb1 := hcol.below
      have hr1 := hcol.reads
      obtain ⟨la, lc, rfl⟩ := reads_len hr1
      clear hcol hr hys
      go_wp2_with fail
      refine (Worst_any _ _ _ hr1).mono ?_
      rintro e w2 ⟨rfl, hb2⟩
      rw [HC1.out]
      go_wp2_with fail
      have hx2 : (w2.alloc (.cells #[.int .i64 b, .int .i64 c] 24)).heap[w2.heap.size]? = some (.cells #[.int .i64 b, .int .i64 c] 24) := heap_alloc_new _ _
      have hal : Below w2.heap.size w2 (w2.alloc (.cells #[.int .i64 b, .int .i64 c] 24)) := (Below.refl _ _).alloc (Nat.le_refl _) _
      have hr3 := (hr1.below hb2).below hal
      have hb3 := (hb1.trans (hb2.mono hb1.size)).trans (hal.mono (hb1.trans (hb2.mono hb1.size)).size)
      generalize hW3 : World.alloc w2 _ = W3 at hx2 hr3 hb3 ⊢
      clear hW3 hal hb1 hb2 hr1
      refine (Corners_any _ _ _ hr3).mono ?_
      rintro e w4 ⟨v4, rfl, hm4⟩
      rw [HCN.out] at hm4 ⊢
      obtain ⟨ta, tc, rfl⟩ := reads_nil hm4.reads
      have hr4 := hr3.below hm4.below
      have hb4 := hb3.trans (hm4.below.mono hb3.size)
      have hx4 := (hm4.below.block _ (heap_lt hx2)).trans hx2
      clear hr3 hb3 hx2 hm4
      go_wp2_with fail
      refine (refOrder_any _ _ _ hr4).mono ?_
      rintro e w5 ⟨rfl, m5, rfl⟩
      rw [HO.out]
      have hb5 := hb4.trans ((below_drewN w4 m5).mono hb4.size)
      have hr5 := hr4.below (below_drewN w4 m5)
      have hx5 := ((below_drewN w4 m5).block _ (heap_lt hx4)).trans hx4
      generalize World.drewN w4 m5 = W5 at hb5 hr5 hx5 ⊢
      clear hb4 hr4 hx4
      go_wp2_with fail
      refine (refWorst_any _ _ _ hr5 HO.out).mono ?_
      rintro e w6 ⟨rfl, hb6⟩
      rw [HC2.out]
      unfold two
      have hx6 := (hb6.block _ (heap_lt hx5)).trans hx5
      have hb7 := hb5.trans (hb6.mono hb5.size)
      have hal : Below w6.heap.size w6 (w6.alloc (.cells #[.int .i64 b, .int .i64 c] 24)) := (Below.refl _ _).alloc (Nat.le_refl _) _
      have x0 := cell_of hx6 (j := 0) (v := .int .i64 b) rfl
      have x1 := cell_of hx6 (j := 1) (v := .int .i64 c) rfl
      have hlt6 := heap_lt hx6
      have hne := neq2_same b c
      have HB7 := Lib.hid (hb7.trans (hal.mono hb7.size))
      clear hx5 hx6 hb5 hb6 hb7 hal hr5
      go_wp2_with fail
      have hb8 := HB7.out
      generalize World.alloc w6 _ = W8 at hb8 ⊢
      refine (awake_any _).mono ?_
      rintro e w9 ⟨rfl, hb9⟩
      go_wp2_with fail
      go_ret
      exact ⟨rfl, hb8.trans (hb9.mono hb8.size)⟩
    · have hcn : cornS (xs.take 17) = (cornTo (xs.take 17) 4, 0) := by unfold cornS; rw [ho, decide_eq_false h16]; rfl
      have HCN := Lib.hid hcn
      have HO := Lib.hid ho
      clear hc1 hc2 ho hl1 hl2 hcn
      generalize hys : xs.take 17 = ys at *
      have t16 : ((ys.length : Int) == 16) = false := by simp; omega
      have H16 := Lib.hid h16
      clear h16
      go_enter Try.func3, Try.ntmps3
      go_wp2_with fail
      refine (list_any _ xs _ hr).mono ?_
      rintro e w1 ⟨l, rfl, hcol⟩
      rw [hys] at hcol
      have hb1 := hcol.below
      have hr1 := hcol.reads
      obtain ⟨la, lc, rfl⟩ := reads_len hr1
      clear hcol hr hys
      go_wp2_with fail
      refine (Worst_any _ _ _ hr1).mono ?_
      rintro e w2 ⟨rfl, hb2⟩
      rw [HC1.out]
      go_wp2_with fail
      have hx2 : (w2.alloc (.cells #[.int .i64 b, .int .i64 c] 24)).heap[w2.heap.size]? = some (.cells #[.int .i64 b, .int .i64 c] 24) := heap_alloc_new _ _
      have hal : Below w2.heap.size w2 (w2.alloc (.cells #[.int .i64 b, .int .i64 c] 24)) := (Below.refl _ _).alloc (Nat.le_refl _) _
      have hr3 := (hr1.below hb2).below hal
      have hb3 := (hb1.trans (hb2.mono hb1.size)).trans (hal.mono (hb1.trans (hb2.mono hb1.size)).size)
      generalize hW3 : World.alloc w2 _ = W3 at hx2 hr3 hb3 ⊢
      clear hW3 hal hb1 hb2 hr1
      refine (Corners_any _ _ _ hr3).mono ?_
      rintro e w4 ⟨v4, rfl, hm4⟩
      rw [HCN.out] at hm4 ⊢
      obtain ⟨ta, tl, tc, rfl⟩ : ∃ a m c, v4 = .slice a m c := by obtain ⟨a, c, h⟩ := reads_len hm4.reads; exact ⟨a, _, c, h⟩
      have hc4 := hm4.reads
      have hr4 := hr3.below hm4.below
      have hb4 := hb3.trans (hm4.below.mono hb3.size)
      have hx4 := (hm4.below.block _ (heap_lt hx2)).trans hx2
      clear hr3 hb3 hx2 hm4
      go_wp2_with fail
      refine (refOrder_any _ _ _ hr4).mono ?_
      rintro e w5 ⟨rfl, m5, rfl⟩
      rw [HO.out]
      have hb5 := hb4.trans ((below_drewN w4 m5).mono hb4.size)
      have hr5 := hr4.below (below_drewN w4 m5)
      have hc5 := hc4.below (below_drewN w4 m5)
      have hx5 := ((below_drewN w4 m5).block _ (heap_lt hx4)).trans hx4
      generalize World.drewN w4 m5 = W5 at hb5 hr5 hc5 hx5 ⊢
      clear hb4 hr4 hx4 hc4
      go_wp2_with fail
      refine (refWorst_any _ _ _ hr5 HO.out).mono ?_
      rintro e w6 ⟨rfl, hb6⟩
      rw [HC2.out]
      unfold two
      have hx6 := (hb6.block _ (heap_lt hx5)).trans hx5
      have hb7 := hb5.trans (hb6.mono hb5.size)
      have hal : Below w6.heap.size w6 (w6.alloc (.cells #[.int .i64 b, .int .i64 c] 24)) := (Below.refl _ _).alloc (Nat.le_refl _) _
      have x0 := cell_of hx6 (j := 0) (v := .int .i64 b) rfl
      have x1 := cell_of hx6 (j := 1) (v := .int .i64 c) rfl
      have hlt6 := heap_lt hx6
      have hne := neq2_same b c
      have HB7 := Lib.hid (hb7.trans (hal.mono hb7.size))
      have HR7 := Lib.hid ((hr5.below hb6).below hal)
      have HC7 := Lib.hid ((hc5.below hb6).below hal)
      clear hx5 hx6 hb5 hb6 hb7 hal hr5 hc5
      go_wp2_with fail
      have hb8 := HB7.out
      have hr8 := HR7.out
      have hc8 := HC7.out
      generalize World.alloc w6 _ = W8 at hb8 hr8 hc8 ⊢
      refine (refCorners_any _ _ _ hr8 HO.out).mono ?_
      rintro e w9 ⟨v9, rfl, hcol9⟩
      have hc9 := hc8.below hcol9.below
      have hb9 := hb8.trans (hcol9.below.mono hb8.size)
      have hd9 := hcol9.reads
      obtain ⟨ua, ul, uc, rfl⟩ : ∃ a m c, v9 = .slice a m c := by obtain ⟨a, c, h⟩ := reads_len hd9; exact ⟨a, _, c, h⟩
      clear hb8 hr8 hc8 hcol9 x0 x1 hlt6 hne
      go_wp2_with fail
      refine (ints_same _ _ _ _ hc9 hd9).mono ?_
      rintro e w10 ⟨rfl, m10, rfl⟩
      have hb10 := hb9.trans ((below_drewN w9 m10).mono hb9.size)
      generalize World.drewN w9 m10 = W10 at hb10 ⊢
      go_wp2_with (go_at_call 8; refine (awake_any _).mono ?_; rintro e w12 ⟨rfl, hb12⟩)
      go_ret
      exact ⟨rfl, hb10.trans (hb12.mono hb10.size)⟩
end Go.Proofs.Ytfidefjkddjcoaa
