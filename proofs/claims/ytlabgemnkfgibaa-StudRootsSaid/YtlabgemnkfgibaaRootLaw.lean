/- StudRoots. -/
import Derived.Test.YtlabgemnkfgibaaRRoots
import Derived.Test.YtlabgemnkfgibaaAwake
import Derived.Test.YtlabgemnkfgibaaLens
set_option linter.unusedVariables false
set_option linter.unusedSimpArgs false
namespace Go.Proofs.Ytlabgemnkfgibaa
open Go.RowKit

set_option maxRecDepth 100000 in
set_option maxHeartbeats 1600000 in
theorem StudRoots_walk (p : Int) (w : World) (wp : -9223372036854775808 ≤ p ∧ p ≤ 9223372036854775807) :
    Calls Try.prog 3 #[.int .i64 p] w fun e w' => e = .returned (.bool true) ∧ Below w.heap.size w w' := by
  obtain ⟨wp1, wp2⟩ := wp
  by_cases hp : primeB p = true
  · obtain ⟨h3, h17⟩ := primeB_rng hp
    have HP := Lib.hid hp
    clear hp
    go_enter Try.func3, Try.ntmps3
    go_wp2_with fail
    refine (Roots_ok p _ HP.out).mono ?_
    rintro e w1 ⟨v, rfl, hcol⟩
    obtain ⟨a, cap, rfl⟩ := reads_len hcol.reads
    go_wp2_with (go_at_call 6; refine (refPrime_any _ _ (by omega)).mono ?_; rintro e w' ⟨rfl, rfl⟩; rw [HP.out])
    refine (refRoots_any p _ HP.out).mono ?_
    rintro e w2 ⟨u, rfl, hcol2⟩
    go_wp2_with fail
    refine (ints_any _ _ _ _ _ (hcol.reads.below hcol2.below) hcol2.reads).mono ?_
    rintro e w3 ⟨rfl, m, rfl⟩
    rw [decide_eq_true rfl]
    have hb := (hcol.below.trans (hcol2.below.mono hcol.below.size)).trans ((below_drewN w2 m).mono (Nat.le_trans hcol.below.size hcol2.below.size))
    generalize hW : World.drewN w2 m = W at hb ⊢
    go_wp2_with (go_at_call 7; refine (awake_any _).mono ?_; rintro e w5 ⟨rfl, hb5⟩)
    go_ret
    exact ⟨rfl, hb.trans (hb5.mono hb.size)⟩
  · have hp' : primeB p = false := by simpa using hp
    have HP := Lib.hid hp'
    clear hp hp'
    go_enter Try.func3, Try.ntmps3
    go_wp2_with fail
    refine (Roots_err p _ wp2 HP.out).mono ?_
    rintro e w1 ⟨v, rfl, hcol⟩
    obtain ⟨a, cap, rfl⟩ := reads_len hcol.reads
    have hb := hcol.below
    go_wp2_with (first
      | (go_at_call 6; refine (refPrime_any _ _ (by omega)).mono ?_; rintro e w' ⟨rfl, rfl⟩; rw [HP.out])
      | (go_at_call 7; refine (awake_any _).mono ?_; rintro e w5 ⟨rfl, hb5⟩))
    all_goals (go_ret; exact ⟨rfl, hb.trans (hb5.mono hb.size)⟩)
end Go.Proofs.Ytlabgemnkfgibaa
