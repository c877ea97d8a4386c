/- PlyClosed. -/
import Derived.Test.YtfhcbaamibipcaaDoorPTame
import Derived.Test.YtfhcbaamibipcaaDoorPAwake
set_option linter.unusedVariables false
set_option linter.unusedSimpArgs false
namespace Go.Proofs.YtfhcbaamibipcaaDoor
open Go.RowKit

set_option maxRecDepth 100000 in
set_option maxHeartbeats 3200000 in
theorem PlyClosed_walk (a0 : Int) (sl : Value) (xs : List Int) (a2 a3 : Int) (w : World) (h0 : -9223372036854775808 ≤ a0 ∧ a0 ≤ 9223372036854775807) (hr : Reads w sl xs) (hx : ∀ x ∈ xs, -9223372036854775808 ≤ x ∧ x ≤ 9223372036854775807) (h2 : -9223372036854775808 ≤ a2 ∧ a2 ≤ 9223372036854775807) (h3 : -9223372036854775808 ≤ a3 ∧ a3 ≤ 9223372036854775807) (hT : Tab w) :
    Calls Tryd.prog 3 #[.int .i64 a0, sl, .int .i64 a2, .int .i64 a3] w fun e w' => e = .returned (.bool true) ∧ Below w.heap.size w w' := by
  clear hx h0 h2 h3
  obtain ⟨ra, rcap, rfl, _, _, _⟩ := hr.open
  go_enter Tryd.func3, Tryd.ntmps3
  have hb := Below.refl w.heap.size w
  go_wp2_with fail
  refine (tame_any a0 _ xs 6 false _ hr (by omega) (by omega)).mono ?_
  rintro e w1 ⟨l, cs, rfl, hcol, hc, hs, _, _⟩
  replace hb := below_to hb hb.size hcol.below
  have rc := hcol.reads
  clear hcol hr
  obtain ⟨la, lc, rfl, _, _, _⟩ := rc.open
  have hln := ofNats_len cs
  rw [hln] at rc ⊢
  have hl1 := hc.1
  have hl6 := hc.2.1
  obtain ⟨N, hN⟩ : ∃ N, 2 ^ cs.length = N := ⟨_, rfl⟩
  have hshN : ((2 : Int) ^ cs.length) = (N : Int) := by rw [← hN]; push_cast; rfl
  have hN64 : N ≤ 64 := by rw [← hN]; exact Nat.pow_le_pow_right (n := 2) (by omega) hl6
  have hN1 : 1 ≤ N := by rw [← hN]; exact Nat.two_pow_pos _
  obtain ⟨A, hA⟩ : ∃ m : Nat, modN a2 (N : Int) = m := ⟨(modN a2 (N : Int)).toNat, by have := modN_rng a2 (n := (N : Int)) (by omega); omega⟩
  obtain ⟨B, hB⟩ : ∃ m : Nat, modN a3 (N : Int) = m := ⟨(modN a3 (N : Int)).toNat, by have := modN_rng a3 (n := (N : Int)) (by omega); omega⟩
  have hA2 : A < N := by have := modN_rng a2 (n := (N : Int)) (by omega); omega
  have hB2 : B < N := by have := modN_rng a3 (n := (N : Int)) (by omega); omega
  have HMA : Hid (∀ w, Calls Tryd.prog 5 #[.int .i64 a2, .int .i64 N] w fun e w' => e = .returned (.int .i64 A) ∧ w = w') := Lib.hid (fun w => by have := mod_any a2 (N : Int) w (by omega) (by omega); rwa [hA] at this)
  have HMB : Hid (∀ w, Calls Tryd.prog 5 #[.int .i64 a3, .int .i64 N] w fun e w' => e = .returned (.int .i64 B) ∧ w = w') := Lib.hid (fun w => by have := mod_any a3 (N : Int) w (by omega) (by omega); rwa [hB] at this)
  have HA : Hid (A < 2 ^ cs.length) := Lib.hid (by rw [hN]; exact hA2)
  have HB : Hid (B < 2 ^ cs.length) := Lib.hid (by rw [hN]; exact hB2)
  have HC := Lib.hid hc
  have HS := Lib.hid hs
  have HL : Hid (cs.length ≤ 6) := Lib.hid hl6
  obtain ⟨X, hX⟩ : ∃ X, closureN cs A = X := ⟨_, rfl⟩
  obtain ⟨Y, hY⟩ : ∃ Y, closureN cs B = Y := ⟨_, rfl⟩
  obtain ⟨V, hV⟩ : ∃ V, closureN cs (A &&& B) = V := ⟨_, rfl⟩
  have hXl : X < N := by rw [← hX, ← hN]; exact closure_lt _ _
  have hYl : Y < N := by rw [← hY, ← hN]; exact closure_lt _ _
  have hVl : V < N := by rw [← hV, ← hN]; exact closure_lt _ _
  have HX := Lib.hid hX
  have HY := Lib.hid hY
  have HV := Lib.hid hV
  have HZ : Hid (closureN cs (A ||| B) = X ||| Y) := Lib.hid (by rw [closure_or hs hc, hX, hY])
  have HXX : Hid (closureN cs X = X) := Lib.hid (by rw [← hX]; exact closure_twice hs hc A)
  have H0 : Hid (closureN cs 0 = 0) := Lib.hid (closure_zero hs hc)
  have HXL : Hid (X < 2 ^ cs.length) := Lib.hid (by rw [hN]; exact hXl)
  have HOR : Hid (A ||| B < 2 ^ cs.length) := Lib.hid (or_lt HA.out HB.out)
  have HAND : Hid (A &&& B < 2 ^ cs.length) := Lib.hid (and_lt HA.out)
  have HP : Hid (0 < 2 ^ cs.length) := Lib.hid (Nat.two_pow_pos _)
  have HSX : Hid (setB cs.length (X : Int) = true) := Lib.hid (setB_iff.2 ⟨by omega, by rw [hshN]; omega⟩)
  have HSY : Hid (setB cs.length (Y : Int) = true) := Lib.hid (setB_iff.2 ⟨by omega, by rw [hshN]; omega⟩)
  have e1 := i64_or A B (by omega) (by omega)
  have e2 := i64_and A B (by omega) (by omega)
  have e3 : bits .and .i64 (X : Int) (A : Int) = (A : Int) := by
    have h1 := sub_and (hX ▸ closure_ge hs hc HA.out)
    rw [i64_and X A (by omega) (by omega), Nat.and_comm, h1]
  have e4 := i64_or X Y (by omega) (by omega)
  have hVX : subB V X = true := by rw [← hV, ← hX]; exact closure_mono hs hc (sub_iff.2 fun i h => by rw [Nat.testBit_and, Bool.and_eq_true] at h; exact h.1)
  have hVY : subB V Y = true := by rw [← hV, ← hY]; exact closure_mono hs hc (sub_iff.2 fun i h => by rw [Nat.testBit_and, Bool.and_eq_true] at h; exact h.2)
  have e5 : bits .and .i64 (V : Int) (X : Int) = (V : Int) := by rw [i64_and V X (by omega) (by omega), sub_and hVX]
  have e6 : bits .and .i64 (V : Int) (Y : Int) = (V : Int) := by rw [i64_and V Y (by omega) (by omega), sub_and hVY]
  clear hA hB hN hX hY hV hVX hVY hc hs
  go_wp2_with fail
  refine wp_region_quiet_lit (by kernel_rfl) (by kernel_rfl) ?_
  repeat (go_big_quiet_step (fail))
  quiet_step ((go_at_call 5; exact (HMA.out _).mono (fun e w' h => ⟨h.1, _, h.2.symm⟩)))
  repeat (go_big_quiet_step (fail))
  quiet_step ((go_at_call 5; exact (HMB.out _).mono (fun e w' h => ⟨h.1, _, h.2.symm⟩)))
  repeat (go_big_quiet_step (fail))
  refine wpQuiet_nil ?_
  intro _ hw'
  obtain ⟨nq, hw''⟩ := hw'
  subst hw''
  replace rc := rc.below (below_drewN _ nq)
  replace hb := below_to hb hb.size (below_drewN _ nq)
  generalize hW1 : World.drewN w1 nq = W1 at *
  clear hW1
  go_wp2_with fail
  refine (Closure_yes _ cs A _ rc HC.out HS.out HA.out (hT.below hb)).mono ?_
  rintro e w1 ⟨rfl, hbn⟩
  rw [HX.out]
  replace rc := rc.below hbn
  replace hb := below_to hb hb.size hbn
  clear hbn
  go_wp2_with fail
  refine (Closure_yes _ cs B _ rc HC.out HS.out HB.out (hT.below hb)).mono ?_
  rintro e w2 ⟨rfl, hbn⟩
  rw [HY.out]
  replace rc := rc.below hbn
  replace hb := below_to hb hb.size hbn
  clear hbn
  go_wp2_with fail
  refine (Closure_yes _ cs (A ||| B) _ rc HC.out HS.out HOR.out (hT.below hb)).mono ?_
  rintro e w3 ⟨rfl, hbn⟩
  rw [HZ.out]
  replace rc := rc.below hbn
  replace hb := below_to hb hb.size hbn
  clear hbn
  go_wp2_with fail
  refine (refSet_any cs.length (X : Int) _ HL.out).mono ?_
  rintro e w4 ⟨rfl, rfl⟩
  rw [HSX.out]
  go_wp2_with fail
  refine (refSet_any cs.length (Y : Int) _ HL.out).mono ?_
  rintro e w5 ⟨rfl, rfl⟩
  rw [HSY.out]
  go_wp2_with fail
  refine (Closure_yes _ cs X _ rc HC.out HS.out HXL.out (hT.below hb)).mono ?_
  rintro e w6 ⟨rfl, hbn⟩
  rw [HXX.out]
  replace rc := rc.below hbn
  replace hb := below_to hb hb.size hbn
  clear hbn
  go_wp2_with fail
  refine (Closure_yes _ cs 0 _ rc HC.out HS.out HP.out (hT.below hb)).mono ?_
  rintro e w7 ⟨rfl, hbn⟩
  rw [H0.out]
  replace rc := rc.below hbn
  replace hb := below_to hb hb.size hbn
  clear hbn
  go_wp2_with fail
  refine (Closure_yes _ cs (A &&& B) _ rc HC.out HS.out HAND.out (hT.below hb)).mono ?_
  rintro e w8 ⟨rfl, hbn⟩
  rw [HV.out]
  replace rc := rc.below hbn
  replace hb := below_to hb hb.size hbn
  clear hbn
  go_wp2_with fail
  refine (awake_any _ (hT.below hb)).mono ?_
  rintro e w9 ⟨rfl, hbn⟩
  replace rc := rc.below hbn
  replace hb := below_to hb hb.size hbn
  clear hbn
  go_wp2_with fail
  go_ret
  exact ⟨rfl, hb⟩
end Go.Proofs.YtfhcbaamibipcaaDoor
