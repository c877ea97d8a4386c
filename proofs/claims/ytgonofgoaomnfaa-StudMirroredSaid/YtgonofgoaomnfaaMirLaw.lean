/- StudMirrored. -/
import Derived.Test.YtgonofgoaomnfaaPrime
import Derived.Test.YtgonofgoaomnfaaTurn
import Derived.Test.YtgonofgoaomnfaaKnown
import Derived.Test.YtgonofgoaomnfaaROrd
import Derived.Test.YtgonofgoaomnfaaAwake
set_option linter.unusedVariables false
set_option linter.unusedSimpArgs false
namespace Go.Proofs.Ytgonofgoaomnfaa
open Go.RowKit

def mirrorB : Bool := [3, 5, 7, 11, 13, 17].all fun (p : Int) => (List.range 17).all fun g => (List.range 17).all fun h => !(rootB p g) || !(rootB p h) ||
  excL (logsL p g h (p.toNat - 2)) == logsL p h g (p.toNat - 2)
theorem mirrorB_true : mirrorB = true := by kernel_rfl
theorem mirror {p g h : Int} (h1 : rootB p g = true) (h2 : rootB p h = true) : turnL (logsL p g h (p.toNat - 2)) 4 = logsL p h g (p.toNat - 2) := by
  obtain ⟨hp, hg1, hg2⟩ := rootB_prime h1
  obtain ⟨_, hh1, hh2⟩ := rootB_prime h2
  obtain ⟨h3, h17⟩ := primeB_rng hp
  have H := List.all_eq_true.1 (List.all_eq_true.1 (List.all_eq_true.1 mirrorB_true p (prime_mem hp)) g.toNat (by simp; omega)) h.toNat (by simp; omega)
  rw [Int.toNat_of_nonneg (by omega : 0 ≤ g), Int.toNat_of_nonneg (by omega : 0 ≤ h), h1, h2] at H
  simp only [Bool.not_true, Bool.false_or] at H
  unfold turnL
  rw [stage_yes (by decide), stage_no (by decide), stage_no (by decide)]
  exact eq_of_beq H
theorem logsS_okM {p g h : Int} (h1 : rootB p g = true) (h2 : rootB p h = true) : logsS p g h = (logsL p g h (p.toNat - 2), 0) := by
  unfold logsS; rw [h1, h2]; rfl

set_option maxRecDepth 100000 in
set_option maxHeartbeats 3200000 in
theorem StudMirrored_walk (x y z : Int) (w : World) (wp : -9223372036854775808 ≤ x ∧ x ≤ 9223372036854775807) (wg : -9223372036854775808 ≤ y ∧ y ≤ 9223372036854775807) (ws : -9223372036854775808 ≤ z ∧ z ≤ 9223372036854775807) :
    Calls Try.prog 3 #[.int .i64 x, .int .i64 y, .int .i64 z] w fun e w' => e = .returned (.bool true) ∧ Below w.heap.size w w' := by
  clear wp wg ws
  go_enter Try.func3, Try.ntmps3
  go_wp2_with fail
  refine (prime_any _ _ _ _).mono ?_
  rintro e w1 ⟨p, g, h, rfl, hp, hr, hq, hb1⟩
  obtain ⟨h3, h17⟩ := primeB_rng hp
  have HR := Lib.hid hr
  have HQ := Lib.hid hq
  clear hp hr hq
  go_wp2_with fail
  refine (Logs_any p g h _ ⟨by omega, by omega⟩).mono ?_
  rintro e w2 ⟨v1, rfl, hcol⟩
  rw [logsS_okM HR.out HQ.out] at hcol ⊢
  go_wp2_with fail
  refine (Logs_any p h g _ ⟨by omega, by omega⟩).mono ?_
  rintro e w3 ⟨v2, rfl, hcol2⟩
  rw [logsS_okM HQ.out HR.out] at hcol2 ⊢
  have hr2 := hcol2.reads
  have hr1 := hcol.reads.below hcol2.below
  have hb := hb1.trans ((hcol.below.trans (hcol2.below.mono hcol.below.size)).mono hb1.size)
  clear hcol hcol2 hb1
  have OA := Lib.hid (golomb HR.out HQ.out).1
  have OB := Lib.hid (golomb HQ.out HR.out).1
  have MI := Lib.hid (mirror HR.out HQ.out)
  have EQ : Hid (g = h → logsL p g h (p.toNat - 2) = logsL p h g (p.toNat - 2)) := Lib.hid (fun e => by rw [e])
  generalize logsL p g h (p.toNat - 2) = xs at *
  generalize logsL p h g (p.toNat - 2) = ys at *
  go_wp2_with fail
  refine (refOrder_any _ _ _ hr1).mono ?_
  rintro e w4 ⟨rfl, m4, rfl⟩
  rw [OA.out]
  have hb4 := hb.trans ((below_drewN w3 m4).mono hb.size)
  have hr14 := hr1.below (below_drewN w3 m4)
  have hr24 := hr2.below (below_drewN w3 m4)
  clear hr1 hr2 hb
  generalize World.drewN w3 m4 = W4 at hb4 hr14 hr24 ⊢
  go_wp2_with fail
  refine (refOrder_any _ _ _ hr24).mono ?_
  rintro e w5 ⟨rfl, m5, rfl⟩
  rw [OB.out]
  have hb5 := hb4.trans ((below_drewN W4 m5).mono hb4.size)
  have hr15 := hr14.below (below_drewN W4 m5)
  have hr25 := hr24.below (below_drewN W4 m5)
  clear hr14 hr24 hb4
  generalize World.drewN W4 m5 = W5 at hb5 hr15 hr25 ⊢
  go_wp2_with fail
  refine (Turn_ok _ _ 4 _ hr15 OA.out (by omega)).mono ?_
  rintro e w6 ⟨v6, rfl, hcol6⟩
  rw [MI.out] at hcol6
  have hr6 := hcol6.reads
  have hr16 := hr15.below hcol6.below
  have hr26 := hr25.below hcol6.below
  have hb6 := hb5.trans (hcol6.below.mono hb5.size)
  clear hcol6 hr15 hr25 hb5
  go_wp2_with fail
  refine (ints_any _ _ _ _ _ hr6 hr26).mono ?_
  rintro e w7 ⟨rfl, m7, rfl⟩
  rw [decide_eq_true rfl]
  have hb7 := hb6.trans ((below_drewN w6 m7).mono hb6.size)
  have hr17 := hr16.below (below_drewN w6 m7)
  have hr27 := hr26.below (below_drewN w6 m7)
  clear hr16 hr26 hb6
  generalize World.drewN w6 m7 = W7 at hb7 hr17 hr27 ⊢
  by_cases hgh : g = h
  · have HEQ := Lib.hid (EQ.out hgh)
    subst hgh
    go_wp2_with fail
    refine (ints_any _ _ _ _ _ hr17 hr27).mono ?_
    rintro e w8 ⟨rfl, m8, rfl⟩
    rw [decide_eq_true HEQ.out]
    have hb8 := hb7.trans ((below_drewN W7 m8).mono hb7.size)
    generalize World.drewN W7 m8 = W8 at hb8 ⊢
    go_wp2_with (go_at_call 9; refine (awake_any _).mono ?_; rintro e w9 ⟨rfl, hb9⟩)
    go_ret
    exact ⟨rfl, hb8.trans (hb9.mono hb8.size)⟩
  · have hd : (g == h) = false := by simp [hgh]
    go_wp2_with (go_at_call 9; refine (awake_any _).mono ?_; rintro e w9 ⟨rfl, hb9⟩)
    go_ret
    exact ⟨rfl, hb7.trans (hb9.mono hb7.size)⟩
end Go.Proofs.Ytgonofgoaomnfaa
