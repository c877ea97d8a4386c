/- The helpers mod and prime of the statements. -/
import Derived.Test.YtfjbggodniemeaaBase
set_option linter.unusedVariables false
set_option linter.unusedSimpArgs false
namespace Go.Proofs.Ytfjbggodniemeaa
open Go.RowKit

def modN (x n : Int) : Int := (x % 18446744073709551616) % n
theorem modN_rng (x : Int) {n : Int} (hn : 1 ≤ n) : 0 ≤ modN x n ∧ modN x n < n := by
  unfold modN
  exact ⟨Int.emod_nonneg _ (by omega), Int.emod_lt_of_pos _ (by omega)⟩

set_option maxHeartbeats 800000 in
theorem mod_any (x n : Int) (w : World) (hn : 1 ≤ n) (hn2 : n ≤ 9223372036854775807) :
    Calls Try.prog 4 #[.int .i64 x, .int .i64 n] w fun e w' => e = .returned (.int .i64 (modN x n)) ∧ w = w' := by
  have e1 : IntKind.u64.wrap x = x % 18446744073709551616 := by simp [IntKind.wrap, IntKind.signed, IntKind.bits]
  have e2 : IntKind.u64.wrap n = n := by simp [IntKind.wrap, IntKind.signed, IntKind.bits]; omega
  have h0 : 0 ≤ x % 18446744073709551616 := Int.emod_nonneg _ (by omega)
  have e3 : (x % 18446744073709551616).tmod n = modN x n := by unfold modN; exact Int.tmod_eq_emod_of_nonneg h0
  have hr := modN_rng x hn
  obtain ⟨hr1, hr2⟩ := hr
  have e4 : IntKind.i64.wrap (modN x n) = modN x n := IntWalk.i64_in _ (by omega)
  have e5 : IntKind.u64.wrap (modN x n) = modN x n := by simp [IntKind.wrap, IntKind.signed, IntKind.bits]; omega
  go_enter Try.func4, Try.ntmps4
  go_wp2_with fail
  go_ret
  exact ⟨ret_int (by simp [*]), rfl⟩
end Go.Proofs.Ytfjbggodniemeaa
