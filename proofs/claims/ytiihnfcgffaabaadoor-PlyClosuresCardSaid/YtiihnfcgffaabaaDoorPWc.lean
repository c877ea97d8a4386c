/- ply's laws: gives. -/
import Derived.Test.YtiihnfcgffaabaaDoorPWb
set_option linter.unusedVariables false
set_option linter.unusedSimpArgs false
namespace Go.Proofs.YtiihnfcgffaabaaDoor
open Go.RowKit

theorem gives_yes (n : Int) (w : World) :
    Calls Tryd.prog 10 #[.int .i64 n, .int .i64 0, .bool true, .int .i64 n] w fun e w' => e = .returned (.bool true) ∧ w = w' := by
  go_enter Tryd.func10, Tryd.ntmps10
  go_wp2
  go_ret
  exact ⟨rfl, rfl⟩
theorem gives_no (want : Int) (w : World) :
    Calls Tryd.prog 10 #[.int .i64 0, .int .i64 2, .bool false, .int .i64 want] w fun e w' => e = .returned (.bool true) ∧ w = w' := by
  go_enter Tryd.func10, Tryd.ntmps10
  go_wp2
  go_ret
  exact ⟨rfl, rfl⟩
end Go.Proofs.YtiihnfcgffaabaaDoor
