/- StudMeetings. -/
import Derived.Test.YtpemfkgadflagaaRMeet
import Derived.Test.YtpemfkgadflagaaROrd
import Derived.Test.YtpemfkgadflagaaList
import Derived.Test.YtpemfkgadflagaaLens
import Derived.Test.YtpemfkgadflagaaAwake
set_option linter.unusedVariables false
set_option linter.unusedSimpArgs false
namespace Go.Proofs.Ytpemfkgadflagaa
open Go.RowKit

set_option maxRecDepth 100000 in
set_option maxHeartbeats 1600000 in
theorem StudMeetings_walk (sl : Value) (xs : List Int) (u v : Int) (w : World) (hr : Reads w sl xs) (hx : ∀ x ∈ xs, -9223372036854775808 ≤ x ∧ x ≤ 9223372036854775807) (hu : -9223372036854775808 ≤ u ∧ u ≤ 9223372036854775807) (hv : -9223372036854775808 ≤ v ∧ v ≤ 9223372036854775807) :
    Calls Try.prog 3 #[sl, .int .i64 u, .int .i64 v] w fun e w' => e = .returned (.bool true) ∧ Below w.heap.size w w' := by
  clear hx
  have HU := Lib.hid hu
  have HV := Lib.hid hv
  clear hu hv
  rcases ho : ordB (xs.take 17) with _ | _
  · have HO := Lib.hid ho
    have HS : Hid (meetS (xs.take 17) u v = (0, 2)) := Lib.hid (by unfold meetS; rw [ho]; rfl)
    clear ho
    go_enter Try.func3, Try.ntmps3
    go_wp2_with fail
    refine (list_any _ xs _ hr).mono ?_
    rintro e w1 ⟨l, rfl, hcol⟩
    have hb := hcol.below
    have hr1 := hcol.reads
    clear hcol hr
    go_wp2_with (first
      | (go_at_call 5; refine (Meeting_any _ _ _ _ _ hr1 HU.out).mono ?_; rintro e w' ⟨rfl, rfl⟩; rw [HS.out])
      | (go_at_call 6; refine (refOrder_any _ _ _ hr1).mono ?_; rintro e w2 ⟨rfl, m, rfl⟩; rw [HO.out]; have hb2 := hb.trans ((below_drewN w1 m).mono hb.size); generalize World.drewN w1 m = W2 at hb2 ⊢)
      | (go_at_call 7; refine (awake_any _).mono ?_; rintro e w5 ⟨rfl, hb5⟩))
    go_ret
    exact ⟨rfl, hb2.trans (hb5.mono hb2.size)⟩
  · have HO := Lib.hid ho
    have HS : Hid (meetS (xs.take 17) u v = ((meetN (xs.take 17) u v (xs.take 17).length : Int), 0)) := Lib.hid (by unfold meetS; rw [ho]; rfl)
    clear ho
    go_enter Try.func3, Try.ntmps3
    go_wp2_with fail
    refine (list_any _ xs _ hr).mono ?_
    rintro e w1 ⟨l, rfl, hcol⟩
    have hb := hcol.below
    have hr1 := hcol.reads
    clear hcol hr
    go_wp2_with (first
      | (go_at_call 5; refine (Meeting_any _ _ _ _ _ hr1 HU.out).mono ?_; rintro e w' ⟨rfl, rfl⟩; rw [HS.out])
      | (go_at_call 6; refine (refOrder_any _ _ _ hr1).mono ?_; rintro e w2 ⟨rfl, m, rfl⟩; rw [HO.out]; have hb2 := hb.trans ((below_drewN w1 m).mono hb.size); have hr2 := hr1.below (below_drewN w1 m); generalize World.drewN w1 m = W2 at hb2 hr2 ⊢)
      | (go_at_call 8; refine (refMeeting_any _ _ _ _ _ hr2 HO.out HU.out HV.out).mono ?_; rintro e w3 ⟨rfl, m3, rfl⟩; have hb3 := hb2.trans ((below_drewN W2 m3).mono hb2.size); generalize World.drewN W2 m3 = W3 at hb3 ⊢)
      | (go_at_call 7; refine (awake_any _).mono ?_; rintro e w5 ⟨rfl, hb5⟩))
    go_ret
    exact ⟨rfl, hb3.trans (hb5.mono hb3.size)⟩
end Go.Proofs.Ytpemfkgadflagaa
