/- StudKnown. -/
import Derived.Test.YtfoiefgmdmodcaaPrime
import Derived.Test.YtfoiefgmdmodcaaAwake
import Derived.Test.YtfoiefgmdmodcaaKnown
import Derived.Test.YtfoiefgmdmodcaaROrd
set_option linter.unusedVariables false
set_option linter.unusedSimpArgs false
namespace Go.Proofs.Ytfoiefgmdmodcaa
open Go.RowKit

theorem powersS_ok {p g s : Int} (h1 : rootB p g = true) (h2 : 0 ≤ s) (h3 : s ≤ p - 2) : powersS p g s = (powersL p g s (p.toNat - 1), 0) := by
  unfold powersS; rw [h1, withinB_iff.2 ⟨h2, h3⟩]; rfl
theorem logsS_ok {p g h : Int} (h1 : rootB p g = true) (h2 : rootB p h = true) : logsS p g h = (logsL p g h (p.toNat - 2), 0) := by
  unfold logsS; rw [h1, h2]; rfl
theorem clearS_yes' {xs : List Int} (ho : ordB xs = true) (h : NoClash xs) : clearS xs = .tuple #[.agg #[.int .i64 0, .int .i64 0, .int .i64 0, .int .i64 0], .bool true, .int .i64 0] := clearS_yes ho h

set_option maxRecDepth 100000 in
set_option maxHeartbeats 3200000 in
theorem StudKnown_walk (x y z u : Int) (w : World) (wp : -9223372036854775808 ≤ x ∧ x ≤ 9223372036854775807) (wg : -9223372036854775808 ≤ y ∧ y ≤ 9223372036854775807) (ws : -9223372036854775808 ≤ z ∧ z ≤ 9223372036854775807) (wu : -9223372036854775808 ≤ u ∧ u ≤ 9223372036854775807) :
    Calls Try.prog 3 #[.int .i64 x, .int .i64 y, .int .i64 z, .int .i64 u] w fun e w' => e = .returned (.bool true) ∧ Below w.heap.size w w' := by
  clear wp wg ws wu
  go_enter Try.func3, Try.ntmps3
  go_wp2_with fail
  refine (prime_any _ _ _ _).mono ?_
  rintro e w1 ⟨p, g, h, rfl, hp, hr, hq, hb1⟩
  obtain ⟨h3, h17⟩ := primeB_rng hp
  obtain ⟨s, hs⟩ : ∃ s : Nat, modN u (p - 1) = s := ⟨(modN u (p - 1)).toNat, by have := modN_rng u (n := p - 1) (by omega); omega⟩
  have hs2 : (s : Int) ≤ p - 2 := by have := modN_rng u (n := p - 1) (by omega); omega
  have HP := Lib.hid hp
  have HR := Lib.hid hr
  have HQ := Lib.hid hq
  have HS := Lib.hid hs
  clear hp hr hq hs
  go_wp2_with (go_at_call 6; refine (mod_any _ _ _ (by omega) (by omega)).mono ?_; rintro e w' ⟨rfl, rfl⟩; rw [HS.out])
  refine (Powers_any p g s _ ⟨by omega, by omega⟩).mono ?_
  rintro e w2 ⟨v, rfl, hcol⟩
  rw [powersS_ok HR.out (by omega) (by omega)] at hcol ⊢
  go_wp2_with fail
  refine (Logs_any p g h _ ⟨by omega, by omega⟩).mono ?_
  rintro e w3 ⟨v2, rfl, hcol2⟩
  rw [logsS_ok HR.out HQ.out] at hcol2 ⊢
  have hr2 := hcol2.reads
  have hr1 := hcol.reads.below hcol2.below
  have hb := hb1.trans ((hcol.below.trans (hcol2.below.mono hcol.below.size)).mono hb1.size)
  clear hcol hcol2 hb1
  obtain ⟨n, hn⟩ : ∃ n, p.toNat - 1 = n := ⟨_, rfl⟩
  obtain ⟨n2, hn2⟩ : ∃ n, p.toNat - 2 = n := ⟨_, rfl⟩
  have oa := powers_ord (s := s) HR.out
  have ca := powers_clear (s := s) HR.out
  obtain ⟨ob, cb⟩ := golomb HR.out HQ.out
  rw [hn] at hr1 oa ca
  rw [hn2] at hr2 ob cb
  simp only [hn, hn2]
  have hl1 : (powersL p g s n).length = n := powersL_len _ _ _ _
  have hl2 : (logsL p g h n2).length = n2 := logsL_len _ _ _ _
  generalize hxs : powersL p g s n = xs at *
  generalize hys : logsL p g h n2 = ys at *
  obtain ⟨a, cap, rfl⟩ := reads_len hr1
  obtain ⟨b, cap2, rfl⟩ := reads_len hr2
  rw [hl1] at hr1 ⊢
  rw [hl2] at hr2 ⊢
  have e1 : ((n : Int) == p - 1) = true := by simp; omega
  have e2 : ((n2 : Int) == p - 2) = true := by simp; omega
  have e1' : (n : Int) = p - 1 := by omega
  have e2' : (n2 : Int) = p - 2 := by omega
  have OA := Lib.hid oa
  have OB := Lib.hid ob
  have CA := Lib.hid (clearS_yes' oa ca)
  have CB := Lib.hid (clearS_yes' ob cb)
  have X1 := Lib.hid hxs
  have X2 := Lib.hid hys
  have X3 := Lib.hid hn
  have X4 := Lib.hid hn2
  have X5 := Lib.hid hl1
  have X6 := Lib.hid hl2
  clear oa ob ca cb hxs hys hn hn2 hl1 hl2
  go_wp2_with fail
  refine (refOrder_any _ _ _ hr1).mono ?_
  rintro e w4 ⟨rfl, m4, rfl⟩
  rw [OA.out]
  have hb4 := hb.trans ((below_drewN w3 m4).mono hb.size)
  have hr14 := hr1.below (below_drewN w3 m4)
  have hr24 := hr2.below (below_drewN w3 m4)
  clear hr1 hr2 hb
  generalize World.drewN w3 m4 = W4 at hb4 hr14 hr24 ⊢
  go_wp2_with fail
  refine (refOrder_any _ _ _ hr24).mono ?_
  rintro e w5 ⟨rfl, m5, rfl⟩
  rw [OB.out]
  have hb5 := hb4.trans ((below_drewN W4 m5).mono hb4.size)
  have hr15 := hr14.below (below_drewN W4 m5)
  have hr25 := hr24.below (below_drewN W4 m5)
  clear hr14 hr24 hb4
  generalize World.drewN W4 m5 = W5 at hb5 hr15 hr25 ⊢
  go_wp2_with fail
  refine (Clear_any _ _ _ hr15).mono ?_
  rintro e w6 ⟨rfl, hb6⟩
  rw [CA.out]
  have hr26 := hr25.below hb6
  have hb6' := hb5.trans (hb6.mono hb5.size)
  clear hr15 hr25 hb5 hb6
  go_wp2_with fail
  have hr27 := hr26.below ((Below.refl _ w6).alloc (Nat.le_refl _) (.cells #[.int .i64 0, .int .i64 0, .int .i64 0, .int .i64 0] 30))
  have hb7 := hb6'.alloc hb6'.size (.cells #[.int .i64 0, .int .i64 0, .int .i64 0, .int .i64 0] 30)
  refine (Clear_any _ _ _ hr27).mono ?_
  rintro e w8 ⟨rfl, hb8⟩
  rw [CB.out]
  have hb8' := hb7.trans (hb8.mono hb7.size)
  go_wp2_with (go_at_call 10; refine (awake_any _).mono ?_; rintro e w9 ⟨rfl, hb9⟩)
  go_ret
  have hb10 := hb8'.alloc hb8'.size (.cells #[.int .i64 0, .int .i64 0, .int .i64 0, .int .i64 0] 30)
  exact ⟨rfl, hb10.trans (hb9.mono hb10.size)⟩
end Go.Proofs.Ytfoiefgmdmodcaa
