/- PlySpaces. -/
import Derived.Test.YtflknahncmopoaaDoorPRSp
import Derived.Test.YtflknahncmopoaaDoorPLst
import Derived.Test.YtflknahncmopoaaDoorPAwake
import Derived.Test.YtflknahncmopoaaDoorPWe
set_option linter.unusedVariables false
set_option linter.unusedSimpArgs false
namespace Go.Proofs.YtflknahncmopoaaDoor
open Go.RowKit

set_option maxRecDepth 100000 in
set_option maxHeartbeats 3200000 in
theorem PlySpaces_walk (sl : Value) (xs : List Int) (w : World) (hr : Reads w sl xs) (hx : ∀ x ∈ xs, -9223372036854775808 ≤ x ∧ x ≤ 9223372036854775807) (hT : Tab w) :
    Calls Tryd.prog 3 #[sl] w fun e w' => e = .returned (.bool true) ∧ Below w.heap.size w w' := by
  clear hx
  rcases ho : okB (xs.take 7) with _ | _
  · have hns : spL (xs.take 7) = false := by unfold spL; rw [ho]; rfl
    have HO := Lib.hid ho
    have HNS := Lib.hid hns
    clear ho hns
    generalize hys : xs.take 7 = ys at *
    go_enter Tryd.func3, Tryd.ntmps3
    go_wp2_with fail
    refine (lawList_any _ xs _ hr).mono ?_
    rintro e w1 ⟨l, rfl, hcol⟩
    rw [hys] at hcol
    have hb1 := hcol.below
    have hr1 := hcol.reads
    clear hcol hr hys
    go_wp2_with fail
    refine (IsSpace_bad _ _ _ hr1 HO.out).mono ?_
    rintro e w2 ⟨rfl, hb2⟩
    have hr2 := hr1.below hb2
    have hb3 := below_to hb1 hb1.size hb2
    clear hr1 hb2 hb1
    go_wp2_with fail
    refine (Opens_no _ _ _ hr2 HNS.out (hT.below hb3)).mono ?_
    rintro e w3 ⟨rfl, hb2⟩
    have hr3 := hr2.below hb2
    have hb4 := below_to hb3 hb3.size hb2
    clear hr2 hb2 hb3
    go_wp2_with fail
    refine (refCodes_any _ _ _ hr3).mono ?_
    rintro e w4 ⟨rfl, hb2⟩
    rw [HO.out]
    have hb5 := below_to hb4 hb4.size hb2
    clear hr3 hb2 hb4
    go_wp2_with fail
    refine (awake_any _ (hT.below hb5)).mono ?_
    rintro e w5 ⟨rfl, hb6⟩
    go_wp2_with fail
    go_ret
    exact ⟨rfl, below_to hb5 hb5.size hb6⟩
  · obtain ⟨hc, hx⟩ := ok_codes ho
    have hsp : spL (xs.take 7) = spaceB (natsOf (xs.take 7)) := by unfold spL; rw [ho, Bool.true_and]
    have HO := Lib.hid ho
    generalize hcs : natsOf (xs.take 7) = cs at *
    clear hcs ho
    have HX := Lib.hid hx
    have HC := Lib.hid hc
    clear hx
    generalize hys : xs.take 7 = ys at *
    rcases hs : spaceB cs with _ | _
    · rw [hs] at hsp
      have HNS := Lib.hid hsp
      have HS := Lib.hid hs
      clear hsp hs hc
      go_enter Tryd.func3, Tryd.ntmps3
      go_wp2_with fail
      refine (lawList_any _ xs _ hr).mono ?_
      rintro e w1 ⟨l, rfl, hcol⟩
      rw [hys] at hcol
      have hb1 := hcol.below
      have hr1 := hcol.reads
      clear hcol hr hys
      go_wp2_with fail
      refine (IsSpace_ok _ cs _ (by rw [← HX.out]; exact hr1) HC.out (hT.below hb1)).mono ?_
      rintro e w2 ⟨rfl, hb2⟩
      rw [HS.out]
      have hr2 := hr1.below hb2
      have hb3 := below_to hb1 hb1.size hb2
      clear hr1 hb2 hb1
      go_wp2_with fail
      refine (Opens_no _ _ _ hr2 HNS.out (hT.below hb3)).mono ?_
      rintro e w3 ⟨rfl, hb2⟩
      have hr3 := hr2.below hb2
      have hb4 := below_to hb3 hb3.size hb2
      clear hr2 hb2 hb3
      go_wp2_with fail
      refine (refCodes_any _ _ _ hr3).mono ?_
      rintro e w4 ⟨rfl, hb2⟩
      rw [HO.out]
      have hr4 := hr3.below hb2
      have hb5 := below_to hb4 hb4.size hb2
      clear hr3 hb2 hb4
      go_wp2_with fail
      refine (refIsSpace_any _ cs _ (by rw [← HX.out]; exact hr4) HC.out).mono ?_
      rintro e w5 ⟨rfl, hb2⟩
      rw [HS.out]
      have hb6 := below_to hb5 hb5.size hb2
      clear hr4 hb2 hb5
      go_wp2_with fail
      refine (awake_any _ (hT.below hb6)).mono ?_
      rintro e w5 ⟨rfl, hb7⟩
      go_wp2_with fail
      go_ret
      exact ⟨rfl, below_to hb6 hb6.size hb7⟩
    · have HS := Lib.hid hs
      clear hsp hs hc
      go_enter Tryd.func3, Tryd.ntmps3
      go_wp2_with fail
      refine (lawList_any _ xs _ hr).mono ?_
      rintro e w1 ⟨l, rfl, hcol⟩
      rw [hys] at hcol
      have hb1 := hcol.below
      have hr1 : Reads w1 l (ofNats cs) := by rw [← HX.out]; exact hcol.reads
      clear hcol hr hys
      go_wp2_with fail
      refine (IsSpace_ok _ cs _ hr1 HC.out (hT.below hb1)).mono ?_
      rintro e w2 ⟨rfl, hb2⟩
      rw [HS.out]
      have hr2 := hr1.below hb2
      have hb3 := below_to hb1 hb1.size hb2
      clear hr1 hb2 hb1
      go_wp2_with fail
      refine (Opens_yes _ cs _ hr2 HC.out HS.out (hT.below hb3)).mono ?_
      rintro e w3 ⟨vo, rfl, hcol⟩
      have hr3 := hr2.below hcol.below
      have hb4 := below_to hb3 hb3.size hcol.below
      have ro := hcol.reads
      clear hr2 hb3 hcol
      go_wp2_with fail
      refine (refCodes_any _ ys _ (by rw [HX.out]; exact hr3)).mono ?_
      rintro e w4 ⟨rfl, hb2⟩
      rw [HO.out]
      have hr4 := hr3.below hb2
      have ro4 := ro.below hb2
      have hb5 := below_to hb4 hb4.size hb2
      clear hr3 hb2 hb4 ro
      go_wp2_with fail
      refine (refIsSpace_any _ cs _ hr4 HC.out).mono ?_
      rintro e w5 ⟨rfl, hb2⟩
      rw [HS.out]
      have hr5 := hr4.below hb2
      have ro5 := ro4.below hb2
      have hb6 := below_to hb5 hb5.size hb2
      clear hr4 hb2 hb5 ro4
      go_wp2_with fail
      refine (refOpens_any _ cs _ hr5 HC.out).mono ?_
      rintro e w6 ⟨vr, rfl, hcol⟩
      have ro6 := ro5.below hcol.below
      have rr6 := hcol.reads
      have hb7 := below_to hb6 hb6.size hcol.below
      clear hr5 hb6 ro5 hcol
      go_wp2_with fail
      refine (ints_same _ _ _ _ ro6 rr6).mono ?_
      rintro e w7 ⟨rfl, m7, rfl⟩
      have hb8 := below_to hb7 hb7.size (below_drewN _ m7)
      generalize hW7 : World.drewN w6 m7 = W7 at *
      clear ro6 rr6 hb7 hW7
      go_wp2_with fail
      refine (awake_any _ (hT.below hb8)).mono ?_
      rintro e w8 ⟨rfl, hb9⟩
      go_wp2_with fail
      go_ret
      exact ⟨rfl, below_to hb8 hb8.size hb9⟩
end Go.Proofs.YtflknahncmopoaaDoor
