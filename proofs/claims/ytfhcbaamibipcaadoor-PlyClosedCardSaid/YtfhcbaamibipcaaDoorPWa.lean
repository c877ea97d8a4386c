/- ply: within, has, all. -/
import Derived.Test.YtfhcbaamibipcaaDoorBase
import Derived.Test.YtfhcbaamibipcaaDoorClosLaw
set_option linter.unusedVariables false
set_option linter.unusedSimpArgs false
namespace Go.Proofs.YtfhcbaamibipcaaDoor
open Go.RowKit

theorem has_bit (s p : Nat) (hs : s < 64) : (bits .and .u64 ((s : Int) / 2 ^ p) 1 == 1) = s.testBit p := by
  have h0 : s / 2 ^ p ≤ s := Nat.div_le_self _ _
  have h1 : ((s : Int) / 2 ^ p) = ((s / 2 ^ p : Nat) : Int) := by push_cast; rfl
  have h2 := u64_and (s / 2 ^ p) 1 (by omega) (by omega)
  rw [Nat.testBit_eq_decide_div_mod_eq, h1, show (1 : Int) = ((1 : Nat) : Int) from rfl, h2, Nat.and_one_is_mod]
  rw [Bool.eq_iff_iff, beq_iff_eq, decide_eq_true_eq]
  omega
theorem refhas_bit (s p : Nat) : (((s : Int) / 2 ^ p).tmod 2 == 1) = s.testBit p := by
  have h1 : ((s : Int) / 2 ^ p) = ((s / 2 ^ p : Nat) : Int) := by push_cast; rfl
  rw [Nat.testBit_eq_decide_div_mod_eq, h1, Bool.eq_iff_iff, beq_iff_eq, decide_eq_true_eq, Int.tmod_eq_emod_of_nonneg (Int.natCast_nonneg _)]
  omega
theorem has_any (s p : Nat) (w : World) (hs : s < 64) (hp : p < 64) :
    Calls Tryd.prog 36 #[.int .u64 s, .int .i64 p] w fun e w' => e = .returned (.bool (s.testBit p)) ∧ w = w' := by
  go_enter Tryd.func36, Tryd.ntmps36
  go_wp2
  go_ret
  exact ⟨ret_bool (has_bit s p hs), rfl⟩
end Go.Proofs.YtfhcbaamibipcaaDoor
