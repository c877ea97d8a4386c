/- PlyChains. -/
import Derived.Test.YtoblkcmpkjfbcaaDoorPRChn
import Derived.Test.YtoblkcmpkjfbcaaDoorPLst
import Derived.Test.YtoblkcmpkjfbcaaDoorPAwake
set_option linter.unusedVariables false
set_option linter.unusedSimpArgs false
namespace Go.Proofs.YtoblkcmpkjfbcaaDoor
open Go.RowKit

theorem chn_both {cs : List Nat} (hs : spaceB cs = true) (hp : plainB cs = true) (hc : Codes cs) : wrap64 (sumTo (upV cs) cs.length) = wrap64 (sumTo (dnV cs) cs.length) := by
  have h := chains_same hs hp hc (k := 64) (m := 65) (by have := Nat.pow_le_pow_right (n := 2) (by omega) hc.2.1; omega) (by have := Nat.pow_le_pow_right (n := 2) (by omega) hc.2.1; omega)
  show wrap64 (sumTo (upF cs 65) cs.length) = wrap64 (sumTo (dnF cs 64) cs.length)
  rw [h]
set_option maxRecDepth 100000 in
set_option maxHeartbeats 3200000 in
theorem PlyChains_walk (sl : Value) (xs : List Int) (w : World) (hr : Reads w sl xs) (hx : ∀ x ∈ xs, -9223372036854775808 ≤ x ∧ x ≤ 9223372036854775807) (hT : Tab w) :
    Calls Tryd.prog 3 #[sl] w fun e w' => e = .returned (.bool true) ∧ Below w.heap.size w w' := by
  clear hx
  rcases hns : spL (xs.take 7) with _ | _
  · have HNS := Lib.hid hns
    clear hns
    generalize hys : xs.take 7 = ys at *
    go_enter Tryd.func3, Tryd.ntmps3
    have hb := Below.refl w.heap.size w
    go_wp2_with fail
    refine (lawList_any _ xs _ hr).mono ?_
    rintro e w1 ⟨l, rfl, hcol⟩
    rw [hys] at hcol
    replace hb := below_to hb hb.size hcol.below
    have rl := hcol.reads
    clear hcol
    clear hr hys
    go_wp2_with fail
    refine (Chains_no _ ys _ rl HNS.out (hT.below hb)).mono ?_
    rintro e w2 ⟨rfl, hbn⟩
    replace rl := rl.below hbn
    replace hb := below_to hb hb.size hbn
    clear hbn
    go_wp2_with fail
    refine (refSpace_any _ ys _ rl).mono ?_
    rintro e w3 ⟨rfl, hbn⟩
    rw [HNS.out]
    replace rl := rl.below hbn
    replace hb := below_to hb hb.size hbn
    clear hbn
    go_wp2_with fail
    refine (awake_any _ (hT.below hb)).mono ?_
    rintro e w4 ⟨rfl, hbn⟩
    replace rl := rl.below hbn
    replace hb := below_to hb hb.size hbn
    clear hbn
    go_wp2_with fail
    go_ret
    exact ⟨rfl, hb⟩
  · obtain ⟨hc, hs, hx⟩ := spL_get hns
    have HNS := Lib.hid hns
    have HC := Lib.hid hc
    have HS := Lib.hid hs
    have HX := Lib.hid hx
    clear hns hc hs hx
    generalize natsOf (xs.take 7) = cs at *
    generalize hys : xs.take 7 = ys at *
    rcases hpl : plainB cs with _ | _
    · have HPL := Lib.hid hpl
      clear hpl
      go_enter Tryd.func3, Tryd.ntmps3
      have hb := Below.refl w.heap.size w
      go_wp2_with fail
      refine (lawList_any _ xs _ hr).mono ?_
      rintro e w1 ⟨l, rfl, hcol⟩
      rw [hys] at hcol
      replace hb := below_to hb hb.size hcol.below
      have rl := hcol.reads
      clear hcol
      clear hr hys
      have hrc : Reads w1 l (ofNats cs) := by rw [← HX.out]; exact rl
      go_wp2_with fail
      refine (Chains_alike _ cs _ hrc HC.out HS.out HPL.out (hT.below hb)).mono ?_
      rintro e w2 ⟨rfl, hbn⟩
      replace rl := rl.below hbn
      replace hrc := hrc.below hbn
      replace hb := below_to hb hb.size hbn
      clear hbn
      go_wp2_with fail
      refine (refSpace_any _ ys _ rl).mono ?_
      rintro e w3 ⟨rfl, hbn⟩
      rw [HNS.out]
      replace rl := rl.below hbn
      replace hrc := hrc.below hbn
      replace hb := below_to hb hb.size hbn
      clear hbn
      go_wp2_with fail
      refine (refPlain_any _ cs _ hrc HC.out).mono ?_
      rintro e w4 ⟨rfl, hbn⟩
      rw [HPL.out]
      replace rl := rl.below hbn
      replace hrc := hrc.below hbn
      replace hb := below_to hb hb.size hbn
      clear hbn
      go_wp2_with fail
      refine (awake_any _ (hT.below hb)).mono ?_
      rintro e w5 ⟨rfl, hbn⟩
      replace rl := rl.below hbn
      replace hrc := hrc.below hbn
      replace hb := below_to hb hb.size hbn
      clear hbn
      go_wp2_with fail
      go_ret
      exact ⟨rfl, hb⟩
    · have HPL := Lib.hid hpl
      have HSUM := Lib.hid (chn_both HS.out hpl HC.out)
      clear hpl
      go_enter Tryd.func3, Tryd.ntmps3
      have hb := Below.refl w.heap.size w
      go_wp2_with fail
      refine (lawList_any _ xs _ hr).mono ?_
      rintro e w1 ⟨l, rfl, hcol⟩
      rw [hys] at hcol
      replace hb := below_to hb hb.size hcol.below
      have rl := hcol.reads
      clear hcol
      clear hr hys
      have hrc : Reads w1 l (ofNats cs) := by rw [← HX.out]; exact rl
      go_wp2_with fail
      refine (Chains_yes _ cs _ hrc HC.out HS.out HPL.out (hT.below hb)).mono ?_
      rintro e w2 ⟨rfl, hbn⟩
      replace rl := rl.below hbn
      replace hrc := hrc.below hbn
      replace hb := below_to hb hb.size hbn
      clear hbn
      go_wp2_with fail
      refine (refSpace_any _ ys _ rl).mono ?_
      rintro e w3 ⟨rfl, hbn⟩
      rw [HNS.out]
      replace rl := rl.below hbn
      replace hrc := hrc.below hbn
      replace hb := below_to hb hb.size hbn
      clear hbn
      go_wp2_with fail
      refine (refPlain_any _ cs _ hrc HC.out).mono ?_
      rintro e w4 ⟨rfl, hbn⟩
      rw [HPL.out]
      replace rl := rl.below hbn
      replace hrc := hrc.below hbn
      replace hb := below_to hb hb.size hbn
      clear hbn
      go_wp2_with fail
      refine (refChains_any _ cs _ HS.out HPL.out HC.out hrc).mono ?_
      rintro e w5 ⟨rfl, hbn⟩
      rw [HSUM.out]
      replace rl := rl.below hbn
      replace hrc := hrc.below hbn
      replace hb := below_to hb hb.size hbn
      clear hbn
      go_wp2_with fail
      refine (awake_any _ (hT.below hb)).mono ?_
      rintro e w6 ⟨rfl, hbn⟩
      replace rl := rl.below hbn
      replace hrc := hrc.below hbn
      replace hb := below_to hb hb.size hbn
      clear hbn
      go_wp2_with fail
      go_ret
      exact ⟨rfl, hb⟩
end Go.Proofs.YtoblkcmpkjfbcaaDoor
