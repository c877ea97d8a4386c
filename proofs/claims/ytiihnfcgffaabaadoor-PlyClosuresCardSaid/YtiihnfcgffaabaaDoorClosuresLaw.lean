/- PlyClosures. -/
import Derived.Test.YtiihnfcgffaabaaDoorPRClos
import Derived.Test.YtiihnfcgffaabaaDoorPRSp
import Derived.Test.YtiihnfcgffaabaaDoorPLst
import Derived.Test.YtiihnfcgffaabaaDoorPAwake
set_option linter.unusedVariables false
set_option linter.unusedSimpArgs false
namespace Go.Proofs.YtiihnfcgffaabaaDoor
open Go.RowKit

set_option maxRecDepth 100000 in
set_option maxHeartbeats 3200000 in
theorem PlyClosures_walk (sl : Value) (xs : List Int) (a1 : Int) (w : World) (hr : Reads w sl xs) (hx : ∀ x ∈ xs, -9223372036854775808 ≤ x ∧ x ≤ 9223372036854775807) (ha : -9223372036854775808 ≤ a1 ∧ a1 ≤ 9223372036854775807) (hT : Tab w) :
    Calls Tryd.prog 3 #[sl, .int .i64 a1] w fun e w' => e = .returned (.bool true) ∧ Below w.heap.size w w' := by
  clear hx
  rcases hns : spL (xs.take 7) with _ | _
  · have HNS := Lib.hid hns
    have HB : Hid ((spL (xs.take 7) && setB (xs.take 7).length a1) = false) := Lib.hid (by rw [hns]; rfl)
    clear hns
    generalize hys : xs.take 7 = ys at *
    go_enter Tryd.func3, Tryd.ntmps3
    have hb := Below.refl w.heap.size w
    go_wp2_with fail
    refine (lawList_any _ xs _ hr).mono ?_
    rintro e w1 ⟨l, rfl, hcol⟩
    rw [hys] at hcol
    replace hb := below_to hb hb.size hcol.below
    have rl := hcol.reads
    clear hcol
    clear hr hys
    obtain ⟨la, lc, rfl, _, _, _⟩ := rl.open
    go_wp2_with fail
    refine (Closure_no _ ys a1 _ rl HB.out (hT.below hb)).mono ?_
    rintro e w2 ⟨rfl, hbn⟩
    replace rl := rl.below hbn
    replace hb := below_to hb hb.size hbn
    clear hbn
    go_wp2_with fail
    refine (Inside_no _ ys a1 _ rl HB.out (hT.below hb)).mono ?_
    rintro e w3 ⟨rfl, hbn⟩
    replace rl := rl.below hbn
    replace hb := below_to hb hb.size hbn
    clear hbn
    go_wp2_with fail
    refine (Edge_no _ ys a1 _ rl HB.out (hT.below hb)).mono ?_
    rintro e w4 ⟨rfl, hbn⟩
    replace rl := rl.below hbn
    replace hb := below_to hb hb.size hbn
    clear hbn
    go_wp2_with fail
    refine (refSpace_any _ ys _ rl).mono ?_
    rintro e w5 ⟨rfl, hbn⟩
    rw [HNS.out]
    replace rl := rl.below hbn
    replace hb := below_to hb hb.size hbn
    clear hbn
    go_wp2_with fail
    refine (gives_no _ _).mono ?_
    rintro e w6 ⟨rfl, rfl⟩
    go_wp2_with fail
    refine (gives_no _ _).mono ?_
    rintro e w7 ⟨rfl, rfl⟩
    go_wp2_with fail
    refine (gives_no _ _).mono ?_
    rintro e w8 ⟨rfl, rfl⟩
    go_wp2_with fail
    refine (awake_any _ (hT.below hb)).mono ?_
    rintro e w9 ⟨rfl, hbn⟩
    replace rl := rl.below hbn
    replace hb := below_to hb hb.size hbn
    clear hbn
    go_wp2_with fail
    go_ret
    exact ⟨rfl, hb⟩
  · obtain ⟨hc, hs, hx⟩ := spL_get hns
    have hlen : (xs.take 7).length = (natsOf (xs.take 7)).length := (natsOf_len _).symm
    have HNS := Lib.hid hns
    have HC := Lib.hid hc
    have HS := Lib.hid hs
    have HX := Lib.hid hx
    have HL : Hid ((xs.take 7).length ≤ 6) := Lib.hid (by rw [hlen]; exact hc.2.1)
    have HLEN := Lib.hid hlen
    clear hc hs hx hlen
    rcases hst : setB (xs.take 7).length a1 with _ | _
    · have HB : Hid ((spL (xs.take 7) && setB (xs.take 7).length a1) = false) := Lib.hid (by rw [hst, Bool.and_false])
      have HST := Lib.hid hst
      clear hst hns
      generalize natsOf (xs.take 7) = cs at *
      generalize hys : xs.take 7 = ys at *
      go_enter Tryd.func3, Tryd.ntmps3
      have hb := Below.refl w.heap.size w
      go_wp2_with fail
      refine (lawList_any _ xs _ hr).mono ?_
      rintro e w1 ⟨l, rfl, hcol⟩
      rw [hys] at hcol
      replace hb := below_to hb hb.size hcol.below
      have rl := hcol.reads
      clear hcol
      clear hr hys
      obtain ⟨la, lc, rfl, _, _, _⟩ := rl.open
      go_wp2_with fail
      refine (Closure_no _ ys a1 _ rl HB.out (hT.below hb)).mono ?_
      rintro e w2 ⟨rfl, hbn⟩
      replace rl := rl.below hbn
      replace hb := below_to hb hb.size hbn
      clear hbn
      go_wp2_with fail
      refine (Inside_no _ ys a1 _ rl HB.out (hT.below hb)).mono ?_
      rintro e w3 ⟨rfl, hbn⟩
      replace rl := rl.below hbn
      replace hb := below_to hb hb.size hbn
      clear hbn
      go_wp2_with fail
      refine (Edge_no _ ys a1 _ rl HB.out (hT.below hb)).mono ?_
      rintro e w4 ⟨rfl, hbn⟩
      replace rl := rl.below hbn
      replace hb := below_to hb hb.size hbn
      clear hbn
      go_wp2_with fail
      refine (refSpace_any _ ys _ rl).mono ?_
      rintro e w5 ⟨rfl, hbn⟩
      rw [HNS.out]
      replace rl := rl.below hbn
      replace hb := below_to hb hb.size hbn
      clear hbn
      go_wp2_with fail
      refine (refSet_any ys.length a1 _ HL.out).mono ?_
      rintro e w6 ⟨rfl, rfl⟩
      rw [HST.out]
      go_wp2_with fail
      refine (gives_no _ _).mono ?_
      rintro e w7 ⟨rfl, rfl⟩
      go_wp2_with fail
      refine (gives_no _ _).mono ?_
      rintro e w8 ⟨rfl, rfl⟩
      go_wp2_with fail
      refine (gives_no _ _).mono ?_
      rintro e w9 ⟨rfl, rfl⟩
      go_wp2_with fail
      refine (awake_any _ (hT.below hb)).mono ?_
      rintro e w10 ⟨rfl, hbn⟩
      replace rl := rl.below hbn
      replace hb := below_to hb hb.size hbn
      clear hbn
      go_wp2_with fail
      go_ret
      exact ⟨rfl, hb⟩
    · obtain ⟨s, rfl⟩ : ∃ s : Nat, a1 = s := ⟨a1.toNat, by have := setB_iff.1 hst; omega⟩
      have HSET := Lib.hid hst
      have HST : Hid (s < 2 ^ (natsOf (xs.take 7)).length) := Lib.hid (by
        have := (setB_iff.1 hst).2
        rw [HLEN.out] at this
        exact_mod_cast this)
      have HS64 : Hid (s < 64) := Lib.hid (Nat.lt_of_lt_of_le HST.out (Nat.pow_le_pow_right (n := 2) (by omega) HC.out.2.1))
      have HED : Hid (wrap64 ((closureN (natsOf (xs.take 7)) s : Int) - (insideN (natsOf (xs.take 7)) s : Int)) = (edgeN (natsOf (xs.take 7)) s : Int)) := Lib.hid (by
        have hsub := sub_trans (inside_sub (natsOf (xs.take 7)) s) (closure_ge HS.out HC.out HST.out)
        have h3 := Nat.lt_of_lt_of_le (closure_lt (natsOf (xs.take 7)) s) (Nat.pow_le_pow_right (n := 2) (by omega) HC.out.2.1)
        have h4 := Nat.lt_of_lt_of_le (inside_lt (natsOf (xs.take 7)) s) (Nat.pow_le_pow_right (n := 2) (by omega) HC.out.2.1)
        obtain ⟨h1, h2⟩ := sub_set (by omega) (by omega) hsub
        unfold edgeN
        rw [← h1]
        unfold wrap64
        omega)
      clear hst hns ha
      generalize natsOf (xs.take 7) = cs at *
      generalize hys : xs.take 7 = ys at *
      go_enter Tryd.func3, Tryd.ntmps3
      have hb := Below.refl w.heap.size w
      go_wp2_with fail
      refine (lawList_any _ xs _ hr).mono ?_
      rintro e w1 ⟨l, rfl, hcol⟩
      rw [hys] at hcol
      replace hb := below_to hb hb.size hcol.below
      have rl := hcol.reads
      clear hcol
      clear hr hys
      obtain ⟨la, lc, rfl, _, _, _⟩ := rl.open
      go_wp2_with fail
      have hrc : Reads w1 (.slice la ys.length lc) (ofNats cs) := by rw [← HX.out]; exact rl
      refine (Closure_yes _ cs s _ hrc HC.out HS.out HST.out (hT.below hb)).mono ?_
      rintro e w2 ⟨rfl, hbn⟩
      replace rl := rl.below hbn
      replace hrc := hrc.below hbn
      replace hb := below_to hb hb.size hbn
      clear hbn
      go_wp2_with fail
      refine (Inside_yes _ cs s _ hrc HC.out HS.out HST.out (hT.below hb)).mono ?_
      rintro e w3 ⟨rfl, hbn⟩
      replace rl := rl.below hbn
      replace hrc := hrc.below hbn
      replace hb := below_to hb hb.size hbn
      clear hbn
      go_wp2_with fail
      refine (Edge_yes _ cs s _ hrc HC.out HS.out HST.out (hT.below hb)).mono ?_
      rintro e w4 ⟨rfl, hbn⟩
      replace rl := rl.below hbn
      replace hrc := hrc.below hbn
      replace hb := below_to hb hb.size hbn
      clear hbn
      go_wp2_with fail
      refine (refSpace_any _ ys _ rl).mono ?_
      rintro e w5 ⟨rfl, hbn⟩
      rw [HNS.out]
      replace rl := rl.below hbn
      replace hrc := hrc.below hbn
      replace hb := below_to hb hb.size hbn
      clear hbn
      go_wp2_with fail
      refine (refSet_any ys.length (s : Int) _ HL.out).mono ?_
      rintro e w6 ⟨rfl, rfl⟩
      rw [HSET.out]
      go_wp2_with fail
      refine (refClosure_any _ cs s _ hrc HC.out HS.out HST.out).mono ?_
      rintro e w7 ⟨rfl, hbn⟩
      replace rl := rl.below hbn
      replace hrc := hrc.below hbn
      replace hb := below_to hb hb.size hbn
      clear hbn
      go_wp2_with fail
      refine (refInside_any _ cs s _ hrc HC.out HS.out HS64.out).mono ?_
      rintro e w8 ⟨rfl, hbn⟩
      replace rl := rl.below hbn
      replace hrc := hrc.below hbn
      replace hb := below_to hb hb.size hbn
      clear hbn
      go_wp2_with fail
      refine (gives_yes _ _).mono ?_
      rintro e w9 ⟨rfl, rfl⟩
      go_wp2_with fail
      refine (gives_yes _ _).mono ?_
      rintro e w10 ⟨rfl, rfl⟩
      have hed := HED.out
      go_wp2_with fail
      refine (gives_yes _ _).mono ?_
      rintro e w11 ⟨rfl, rfl⟩
      go_wp2_with fail
      refine (awake_any _ (hT.below hb)).mono ?_
      rintro e w12 ⟨rfl, hbn⟩
      replace rl := rl.below hbn
      replace hrc := hrc.below hbn
      replace hb := below_to hb hb.size hbn
      clear hbn
      go_wp2_with fail
      go_ret
      exact ⟨rfl, hb⟩
end Go.Proofs.YtiihnfcgffaabaaDoor
