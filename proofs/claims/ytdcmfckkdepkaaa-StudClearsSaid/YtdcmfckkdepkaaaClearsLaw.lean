/- StudClears. -/
import Derived.Test.YtdcmfckkdepkaaaRClear
import Derived.Test.YtdcmfckkdepkaaaRTri
import Derived.Test.YtdcmfckkdepkaaaROrd
import Derived.Test.YtdcmfckkdepkaaaList
import Derived.Test.YtdcmfckkdepkaaaLens
import Derived.Test.YtdcmfckkdepkaaaAwake
import Derived.Test.YtdcmfckkdepkaaaEqArr
set_option linter.unusedVariables false
set_option linter.unusedSimpArgs false
namespace Go.Proofs.Ytdcmfckkdepkaaa
open Go.RowKit

theorem clear_both {xs : List Int} (ho : ordB xs = true) : ∃ (a b c d : Int) (bb : Bool), clearS xs = .tuple #[.agg #[.int .i64 a, .int .i64 b, .int .i64 c, .int .i64 d], .bool bb, .int .i64 0] ∧ refClearS xs = .tuple #[.agg #[.int .i64 a, .int .i64 b, .int .i64 c, .int .i64 d], .bool bb] := by
  unfold clearS refClearS
  rw [ho]
  rcases firstClash xs with _ | ⟨p, q⟩
  · exact ⟨0, 0, 0, 0, true, rfl, rfl⟩
  · exact ⟨p.1, p.2, q.1, q.2, false, rfl, rfl⟩
set_option maxRecDepth 100000 in
set_option maxHeartbeats 3200000 in
theorem StudClears_walk (sl : Value) (xs : List Int) (w : World) (hr : Reads w sl xs) (hx : ∀ x ∈ xs, -9223372036854775808 ≤ x ∧ x ≤ 9223372036854775807) :
    Calls Try.prog 3 #[sl] w fun e w' => e = .returned (.bool true) ∧ Below w.heap.size w w' := by
  clear hx
  rcases ho : ordB (xs.take 17) with _ | _
  · have hc1 : clearS (xs.take 17) = .tuple #[.agg zero4, .bool false, .int .i64 2] := by unfold clearS; rw [ho]; rfl
    unfold zero4 at hc1
    have HC1 := Lib.hid hc1
    have HO := Lib.hid ho
    clear hc1 ho
    generalize hys : xs.take 17 = ys at *
    go_enter Try.func3, Try.ntmps3
    go_wp2_with fail
    refine (list_any _ xs _ hr).mono ?_
    rintro e w1 ⟨l, rfl, hcol⟩
    rw [hys] at hcol
    have hb1 := hcol.below
    have hr1 := hcol.reads
    clear hcol hr hys
    go_wp2_with fail
    refine (Clear_any _ _ _ hr1).mono ?_
    rintro e w2 ⟨rfl, hb2⟩
    rw [HC1.out]
    go_wp2_with fail
    have hx2 : (w2.alloc (.cells #[.int .i64 0, .int .i64 0, .int .i64 0, .int .i64 0] 24)).heap[w2.heap.size]? = some (.cells #[.int .i64 0, .int .i64 0, .int .i64 0, .int .i64 0] 24) := heap_alloc_new _ _
    have hal : Below w2.heap.size w2 (w2.alloc (.cells #[.int .i64 0, .int .i64 0, .int .i64 0, .int .i64 0] 24)) := (Below.refl _ _).alloc (Nat.le_refl _) _
    have hr3 := (hr1.below hb2).below hal
    have hb3 := (hb1.trans (hb2.mono hb1.size)).trans (hal.mono (hb1.trans (hb2.mono hb1.size)).size)
    generalize hW3 : World.alloc w2 _ = W3 at hx2 hr3 hb3 ⊢
    clear hW3 hal hb1 hb2 hr1
    refine (Triangle_err _ _ _ HO.out hr3).mono ?_
    rintro e w4 ⟨v4, rfl, hm4⟩
    obtain ⟨ta, tc, rfl, _, _, _⟩ := hm4.open
    have hr4 := hr3.below hm4.below
    have hb4 := hb3.trans (hm4.below.mono hb3.size)
    have hx4 := (hm4.below.block _ (heap_lt hx2)).trans hx2
    clear hr3 hb3 hx2 hm4
    go_wp2_with fail
    refine (refOrder_any _ _ _ hr4).mono ?_
    rintro e w5 ⟨rfl, m5, rfl⟩
    rw [HO.out]
    have hb5 := hb4.trans ((below_drewN w4 m5).mono hb4.size)
    have hx5 := ((below_drewN w4 m5).block _ (heap_lt hx4)).trans hx4
    generalize World.drewN w4 m5 = W5 at hb5 hx5 ⊢
    clear hb4 hr4 hx4
    have x0 := cell_of hx5 (j := 0) rfl
    have x1 := cell_of hx5 (j := 1) rfl
    have x2 := cell_of hx5 (j := 2) rfl
    have x3 := cell_of hx5 (j := 3) rfl
    have hne : ∀ w, (binOp .eql 24 (.agg #[.int .i64 0, .int .i64 0, .int .i64 0, .int .i64 0]) (.agg #[.int .i64 0, .int .i64 0, .int .i64 0, .int .i64 0])).run Try.prog w = .ok (.bool true) w := fun w => by kernel_rfl
    go_wp2_with (go_at_call 8; refine (awake_any _).mono ?_; rintro e w6 ⟨rfl, hb6⟩)
    go_ret
    exact ⟨rfl, hb5.trans (hb6.mono hb5.size)⟩
  · obtain ⟨a, b, c, d, bb, hc1, hc2⟩ := clear_both ho
    have hsm := ordB_rng ho
    obtain ⟨hl1, hl2⟩ := ordB_len ho
    have HC1 := Lib.hid hc1
    have HC2 := Lib.hid hc2
    have HO := Lib.hid ho
    have HSM : Hid (∀ j, -1000000 ≤ gi (xs.take 17) j ∧ gi (xs.take 17) j ≤ 1000000) := Lib.hid (fun j => by have := hsm j; omega)
    have HL : Hid ((xs.take 17).length ≤ 1000000) := Lib.hid (by omega)
    clear hc1 hc2 ho hsm hl1 hl2
    generalize hys : xs.take 17 = ys at *
    go_enter Try.func3, Try.ntmps3
    go_wp2_with fail
    refine (list_any _ xs _ hr).mono ?_
    rintro e w1 ⟨l, rfl, hcol⟩
    rw [hys] at hcol
    have hb1 := hcol.below
    have hr1 := hcol.reads
    clear hcol hr hys
    go_wp2_with fail
    refine (Clear_any _ _ _ hr1).mono ?_
    rintro e w2 ⟨rfl, hb2⟩
    rw [HC1.out]
    go_wp2_with fail
    have hx2 : (w2.alloc (.cells #[.int .i64 a, .int .i64 b, .int .i64 c, .int .i64 d] 24)).heap[w2.heap.size]? = some (.cells #[.int .i64 a, .int .i64 b, .int .i64 c, .int .i64 d] 24) := heap_alloc_new _ _
    have hal : Below w2.heap.size w2 (w2.alloc (.cells #[.int .i64 a, .int .i64 b, .int .i64 c, .int .i64 d] 24)) := (Below.refl _ _).alloc (Nat.le_refl _) _
    have hr3 := (hr1.below hb2).below hal
    have hb3 := (hb1.trans (hb2.mono hb1.size)).trans (hal.mono (hb1.trans (hb2.mono hb1.size)).size)
    generalize hW3 : World.alloc w2 _ = W3 at hx2 hr3 hb3 ⊢
    clear hW3 hal hb1 hb2 hr1
    refine (Triangle_ok _ _ _ HO.out hr3).mono ?_
    rintro e w4 ⟨v4, rfl, hm4⟩
    have hr4 := hr3.below hm4.below
    have hb4 := hb3.trans (hm4.below.mono hb3.size)
    have hx4 := (hm4.below.block _ (heap_lt hx2)).trans hx2
    clear hr3 hb3 hx2
    go_wp2_with fail
    refine (refOrder_any _ _ _ hr4).mono ?_
    rintro e w5 ⟨rfl, m5, rfl⟩
    rw [HO.out]
    have hb5 := hb4.trans ((below_drewN w4 m5).mono hb4.size)
    have hr5 := hr4.below (below_drewN w4 m5)
    have hm5 := hm4.step (below_drewN w4 m5)
    have hx5 := ((below_drewN w4 m5).block _ (heap_lt hx4)).trans hx4
    generalize World.drewN w4 m5 = W5 at hb5 hr5 hm5 hx5 ⊢
    clear hb4 hr4 hm4 hx4
    go_wp2_with fail
    refine (refClear_any _ _ _ HSM.out HL.out hr5).mono ?_
    rintro e w6 ⟨rfl, hb6⟩
    rw [HC2.out]
    go_wp2_with fail
    have hx7 : (w6.alloc (.cells #[.int .i64 a, .int .i64 b, .int .i64 c, .int .i64 d] 24)).heap[w6.heap.size]? = some (.cells #[.int .i64 a, .int .i64 b, .int .i64 c, .int .i64 d] 24) := heap_alloc_new _ _
    have hal : Below w6.heap.size w6 (w6.alloc (.cells #[.int .i64 a, .int .i64 b, .int .i64 c, .int .i64 d] 24)) := (Below.refl _ _).alloc (Nat.le_refl _) _
    have h57 : Below W5.heap.size W5 (w6.alloc (.cells #[.int .i64 a, .int .i64 b, .int .i64 c, .int .i64 d] 24)) := hb6.trans (hal.mono hb6.size)
    generalize hW7 : World.alloc w6 _ = W7 at hx7 h57 ⊢
    clear hW7 hal hb6
    have hr7 := hr5.below h57
    have hb7 := hb5.trans (h57.mono hb5.size)
    have hm7 := hm5.step h57
    have hy7 := (h57.block _ (heap_lt hx5)).trans hx5
    clear hb5 hr5 hm5 hx5 h57
    refine (refTriangle_any _ _ _ HO.out hr7).mono ?_
    rintro e w8 ⟨v8, rfl, hm8⟩
    have hb8 := hb7.trans (hm8.below.mono hb7.size)
    have hx8 := (hm8.below.block _ (heap_lt hx7)).trans hx7
    have hy8 := (hm8.below.block _ (heap_lt hy7)).trans hy7
    have hn8 := hm7.step hm8.below
    have x0 := cell_of hx8 (j := 0) rfl
    have x1 := cell_of hx8 (j := 1) rfl
    have x2 := cell_of hx8 (j := 2) rfl
    have x3 := cell_of hx8 (j := 3) rfl
    have y0 := cell_of hy8 (j := 0) rfl
    have y1 := cell_of hy8 (j := 1) rfl
    have y2 := cell_of hy8 (j := 2) rfl
    have y3 := cell_of hy8 (j := 3) rfl
    clear hb7 hr7 hm7 hx7 hy7 hx8 hy8
    have hne := neq4_same a b c d
    have hT := Lib.hid (triL_len ys (ys.length - 1))
    obtain ⟨ta, tc, hv4, _, _, hcv⟩ := hn8.open
    obtain ⟨ua, uc, hv8, _, _, hcu⟩ := hm8.open
    rw [hT.out] at hv4 hv8 hcv hcu
    subst hv4 hv8
    have HCV := Lib.hid hcv
    have HCU := Lib.hid hcu
    have hlen16 : ys.length - 1 ≤ 1000000 := by have := HL.out; omega
    clear hn8 hm8 hcv hcu
    go_wp2_with fail
    generalize hN : ys.length - 1 = n at *
    go_loopw [12] (fun i wr => ∃ k : Nat, k ≤ n ∧ i = .int .i64 k ∧ Below w8.heap.size w8 wr) (fun i _ => n - (intOf i).toNat)
    case atStart => exact ⟨0, by omega, rfl, Below.refl _ _⟩
    case round =>
      obtain ⟨k, hk, rfl, hbr⟩ := hrel
      clear x0 x1 x2 x3 y0 y1 y2 y3 hne
      by_cases hlt : k < n
      · obtain ⟨b1, r1, rfl, hb1, hc1, ho1⟩ := HCV.out k hlt
        obtain ⟨b2, r2, rfl, hb2, hc2, ho2⟩ := HCU.out k hlt
        generalize (triL ys n).getD k [] = row at ho1 ho2
        obtain ⟨x1, c1, rfl⟩ := reads_len ho1.reads
        obtain ⟨x2, c2, rfl⟩ := reads_len ho2.reads
        have hd1 := (hbr.cell (p := ⟨b1, k, none⟩) hb1).trans hc1
        have hd2 := (hbr.cell (p := ⟨b2, k, none⟩) hb2).trans hc2
        have k0 : (0 : Int) ≤ (k : Int) := by omega
        have k1 : (k : Int) < (n : Int) := by omega
        have H1 := Lib.hid (ho1.reads.below hbr)
        have H2 := Lib.hid (ho2.reads.below hbr)
        have HBR := Lib.hid hbr
        clear ho1 ho2 hc1 hc2 hbr
        go_wp2_with fail
        go_quiet ((go_at_call 11; exact Calls.quiet_of (ints_same _ _ _ _ (H1.out.below (below_drewN _ _)) (H2.out.below (below_drewN _ _)))))
        go_wp2_with fail
        go_roundw
        case rel => exact ⟨k + 1, by omega, by go_num, HBR.out.trans ((below_drewN _ _).mono HBR.out.size)⟩
        case measure => simp [intOf]; omega
      · have hb9 := hb8.trans (hbr.mono hb8.size)
        go_wp2_with (go_at_call 8; refine (awake_any _).mono ?_; rintro e w6 ⟨rfl, hb6⟩)
        go_ret
        exact ⟨rfl, hb9.trans (hb6.mono hb9.size)⟩
end Go.Proofs.Ytdcmfckkdepkaaa
