/- ply: within, has, all. -/
import Derived.Test.YtiihnfcgffaabaaDoorBase
import Derived.Test.YtiihnfcgffaabaaDoorClosLaw
set_option linter.unusedVariables false
set_option linter.unusedSimpArgs false
namespace Go.Proofs.YtiihnfcgffaabaaDoor
open Go.RowKit

theorem has_bit (s p : Nat) (hs : s < 64) : (bits .and .u64 ((s : Int) / 2 ^ p) 1 == 1) = s.testBit p := by
  have h0 : s / 2 ^ p ≤ s := Nat.div_le_self _ _
  have h1 : ((s : Int) / 2 ^ p) = ((s / 2 ^ p : Nat) : Int) := by push_cast; rfl
  have h2 := u64_and (s / 2 ^ p) 1 (by omega) (by omega)
  rw [Nat.testBit_eq_decide_div_mod_eq, h1, show (1 : Int) = ((1 : Nat) : Int) from rfl, h2, Nat.and_one_is_mod]
  rw [Bool.eq_iff_iff, beq_iff_eq, decide_eq_true_eq]
  omega
theorem refhas_bit (s p : Nat) : (((s : Int) / 2 ^ p).tmod 2 == 1) = s.testBit p := by
  have h1 : ((s : Int) / 2 ^ p) = ((s / 2 ^ p : Nat) : Int) := by push_cast; rfl
  rw [Nat.testBit_eq_decide_div_mod_eq, h1, Bool.eq_iff_iff, beq_iff_eq, decide_eq_true_eq, Int.tmod_eq_emod_of_nonneg (Int.natCast_nonneg _)]
  omega
theorem refWithin_any (a b : Nat) (w : World) (ha : a < 64) (hb : b < 64) :
    Calls Tryd.prog 25 #[.int .i64 a, .int .i64 b] w fun e w' => e = .returned (.bool (subB a b)) ∧ w = w' := by
  have e1 := i64_and a b (by omega) (by omega)
  have e2 : (((a &&& b : Nat) : Int) == (a : Int)) = subB a b := by
    rw [Bool.eq_iff_iff, beq_iff_eq, sub_iff]
    constructor
    · intro h i hi
      have h2 : a &&& b = a := by omega
      rw [← h2, Nat.testBit_and, Bool.and_eq_true] at hi
      exact hi.2
    · intro h
      have := sub_and (sub_iff.2 h)
      omega
  go_enter Tryd.func25, Tryd.ntmps25
  go_wp2
  go_ret
  exact ⟨rfl, rfl⟩
theorem has_any (s p : Nat) (w : World) (hs : s < 64) (hp : p < 64) :
    Calls Tryd.prog 50 #[.int .u64 s, .int .i64 p] w fun e w' => e = .returned (.bool (s.testBit p)) ∧ w = w' := by
  go_enter Tryd.func50, Tryd.ntmps50
  go_wp2
  go_ret
  exact ⟨ret_bool (has_bit s p hs), rfl⟩
theorem refHas_any (s p : Nat) (w : World) (hs : s < 64) (hp : p < 64) :
    Calls Tryd.prog 31 #[.int .i64 s, .int .i64 p] w fun e w' => e = .returned (.bool (s.testBit p)) ∧ w = w' := by
  go_enter Tryd.func31, Tryd.ntmps31
  go_wp2
  go_ret
  exact ⟨ret_bool (refhas_bit s p), rfl⟩
end Go.Proofs.YtiihnfcgffaabaaDoor
