/- The reference's First. -/
import Derived.Test.YtlgonmnbedddaaaFirst
import Derived.Test.YtlgonmnbedddaaaRTurn
import Derived.Test.YtlgonmnbedddaaaRNext
import Derived.Deep.CutRange
set_option linter.unusedVariables false
set_option linter.unusedSimpArgs false
namespace Go.Proofs.Ytlgonmnbedddaaa
open Go.RowKit

def bestTo (xs : List Int) : Nat → List Int
  | 0 => xs
  | s + 1 => if ltB (turnL xs s) (bestTo xs s) = true then turnL xs s else bestTo xs s
theorem bestTo_len (xs : List Int) : ∀ s, (bestTo xs s).length = xs.length
  | 0 => rfl
  | s + 1 => by
    unfold bestTo
    split
    · exact turn_len xs s
    · exact bestTo_len xs s
theorem dist_step (xs ys : List Int) (k : Nat) : decide (ys ∈ distTo xs (k + 1)) = (decide (ys ∈ distTo xs k) || decide (ys = turnL xs k)) := by
  rw [Bool.eq_iff_iff, Bool.or_eq_true, decide_eq_true_eq, decide_eq_true_eq, decide_eq_true_eq, distTo_mem, distTo_mem]
  constructor
  · rintro ⟨j, hj, e⟩
    by_cases h : j = k
    · subst h; exact .inr e
    · exact .inl ⟨j, by omega, e⟩
  · rintro (⟨j, hj, e⟩ | e)
    · exact ⟨j, by omega, e⟩
    · exact ⟨k, by omega, e⟩
theorem lt_same {xs ys : List Int} (hl : xs.length = ys.length) : decide (xs = ys) = (!ltB xs ys && !ltB ys xs) := by
  rw [Bool.eq_iff_iff, decide_eq_true_eq, Bool.and_eq_true, Bool.not_eq_true', Bool.not_eq_true']
  constructor
  · rintro rfl; exact ⟨ltB_irrefl _, ltB_irrefl _⟩
  · rintro ⟨h1, h2⟩
    rcases ltB_tri hl with h | h | h
    · rw [h1] at h; cases h
    · exact h
    · rw [h2] at h; cases h
theorem before_b (v u : Value) (xs ys : List Int) (b : Bool) (w : World) (hr : Reads w v xs) (hs : Reads w u ys) (hl : xs.length = ys.length) (hb : ltB xs ys = b) :
    Calls Try.prog 30 #[v, u] w fun e w' => e = .returned (.bool b) ∧ ∃ n, w' = w.drewN n :=
  (before_any v u xs ys w hr hs hl).mono fun e w' ⟨h1, h2⟩ => ⟨by rw [h1, hb], h2⟩

set_option maxRecDepth 100000 in
set_option maxHeartbeats 6400000 in
theorem refFirst_any (v : Value) (xs : List Int) (w : World) (hr : Reads w v xs) (ho : ordB xs = true) :
    Calls Try.prog 13 #[v] w fun e w' => ∃ v', e = .returned (.tuple #[v', .int .i64 ((distTo xs 8).length : Nat)]) ∧ Reads w' v' (bestTo xs 8) ∧ Below w.heap.size w w' := by
  have HO := Lib.hid ho
  obtain ⟨va, vc, rfl⟩ := reads_len hr
  obtain ⟨n, hn⟩ : ∃ n, xs.length = n := ⟨_, rfl⟩
  rw [hn] at hr ⊢
  have HN := Lib.hid hn
  have HR := Lib.hid hr
  clear ho hr hn
  go_enter Try.func13, Try.ntmps13
  go_wp2_with fail
  go_loopw [4, 5, 6] (fun b m i wr => ∃ s k : Nat, s ≤ 8 ∧ i = .int .i64 s ∧ m = .int .i64 k ∧ k ≤ s ∧ (distTo xs s).length = k ∧ Reads wr b (bestTo xs s) ∧ Below w.heap.size w wr) (fun _ _ i _ => 8 - (intOf i).toNat)
  case atStart => exact ⟨0, 0, by omega, rfl, rfl, by omega, rfl, HR.out, Below.refl _ _⟩
  case round =>
    obtain ⟨s, k, hs, rfl, rfl, hks, hdl, hbest, hb0⟩ := hrel
    have HDL := Lib.hid hdl
    clear hdl
    by_cases hlt : s < 8
    · have s1 : (s : Int) < 8 := by omega
      have hbl := bestTo_len xs s
      have htl := turn_len xs s
      have hbs : bestTo xs (s + 1) = if ltB (turnL xs s) (bestTo xs s) = true then turnL xs s else bestTo xs s := rfl
      obtain ⟨ba, bl, bc, hbe⟩ : ∃ a l c, _ = Value.slice a l c := by obtain ⟨a, c, h⟩ := reads_len hbest; exact ⟨a, _, c, h⟩
      subst hbe
      generalize bestTo xs s = bb at *
      have HB := Lib.hid hb0
      have HBE := Lib.hid hbest
      have HBS := Lib.hid hbs
      have HLL : Hid ((turnL xs s).length = bb.length) := Lib.hid (by rw [htl, hbl])
      clear hb0 hbest hbs hbl
      go_wp2_with fail
      refine (refTurn_any _ xs s _ (HR.out.below HB.out) HO.out (by omega)).mono ?_
      rintro e w1 ⟨v1, rfl, hv1, hb1⟩
      obtain ⟨ta, tl, tc, rfl⟩ : ∃ a l c, v1 = .slice a l c := by obtain ⟨a, c, h⟩ := reads_len hv1; exact ⟨a, _, c, h⟩
      have HB1 := Lib.hid hb1
      have HV1 := Lib.hid hv1
      clear hb1 hv1 htl
      go_wp2_with fail
      refine (before_any _ _ _ _ _ HV1.out (HBE.out.below HB1.out) HLL.out).mono ?_
      rintro e w2 ⟨rfl, m2, rfl⟩
      have hb2 := HB.out.trans ((HB1.out.trans ((below_drewN w1 m2).mono HB1.out.size)).mono HB.out.size)
      have hv2 := HV1.out.below (below_drewN w1 m2)
      have he2 := (HBE.out.below HB1.out).below (below_drewN w1 m2)
      generalize World.drewN w1 m2 = W2 at hb2 hv2 he2 ⊢
      clear HB1 HV1 HBE HB
      go_upto_if 21 with fail
      go_cut [4] from 12 to 47 (fun b wx => Reads W2 b (bestTo xs (s + 1)) ∧ wx = W2)
      case first =>
        rcases hlb : ltB (turnL xs s) bb with _ | _
        · have H2 : Hid (Reads W2 (.slice ba bl bc) (bestTo xs (s + 1))) := Lib.hid (by rw [HBS.out, hlb]; exact he2)
          clear hlb
          go_wp2_with fail
          go_meet
          case rel => exact ⟨H2.out, rfl⟩
        · have H2 : Hid (Reads W2 (.slice ta tl tc) (bestTo xs (s + 1))) := Lib.hid (by rw [HBS.out, hlb]; exact hv2)
          clear hlb
          go_wp2_with fail
          go_meet
          case rel => exact ⟨H2.out, rfl⟩
      case rest =>
        obtain ⟨hnr, rfl⟩ := hcut
        obtain ⟨na, nl, nc, hne⟩ : ∃ a l c, _ = Value.slice a l c := by obtain ⟨a, c, h⟩ := reads_len hnr; exact ⟨a, _, c, h⟩
        subst hne
        have HNR := Lib.hid hnr
        have HV2 := Lib.hid hv2
        have HB2 := Lib.hid hb2
        have HR2 := Lib.hid (HR.out.below hb2)
        clear hnr hv2 hb2 he2 HBS HLL
        go_wp2_with fail
        obtain ⟨wo, rfl⟩ : ∃ wo : World, wo = wc := ⟨_, rfl⟩
        go_loopw [8, 9] (fun f j wr => ∃ (q : Nat) (fb : Bool), q ≤ s ∧ j = .int .i64 q ∧ f = .bool fb ∧ decide (turnL xs s ∈ distTo xs q) = fb ∧ Below wo.heap.size wo wr) (fun _ j _ => s - (intOf j).toNat)
        case atStart => exact ⟨0, false, by omega, rfl, rfl, by simp [distTo], Below.refl _ _⟩
        case round =>
          obtain ⟨q, fb, hq, rfl, rfl, hfb, hbq⟩ := hrel
          have HFB := Lib.hid hfb
          have HBQ := Lib.hid hbq
          clear hfb hbq
          by_cases hql : q < s
          · have hst := dist_step xs (turnL xs s) q
            have hll : (turnL xs s).length = (turnL xs q).length := by rw [turn_len, turn_len]
            rw [lt_same hll] at hst
            have HST := Lib.hid hst
            have HLQ := Lib.hid hll
            clear hst hll
            go_wp2_with fail
            refine (refTurn_any _ xs q _ (HR2.out.below HBQ.out) HO.out (by omega)).mono ?_
            rintro e w3 ⟨v3, rfl, hv3, hb3⟩
            obtain ⟨ya, yl, yc, rfl⟩ : ∃ a l c, v3 = .slice a l c := by obtain ⟨a, c, h⟩ := reads_len hv3; exact ⟨a, _, c, h⟩
            have HX3 := Lib.hid ((HV2.out.below HBQ.out).below hb3)
            have HY3 := Lib.hid hv3
            have HB3 := Lib.hid (HBQ.out.trans (hb3.mono HBQ.out.size))
            clear hv3 hb3
            cases fb
            · rcases h1 : ltB (turnL xs s) (turnL xs q) with _ | _
              · have H1 := Lib.hid h1
                clear h1
                rcases h2 : ltB (turnL xs q) (turnL xs s) with _ | _
                · have H2 := Lib.hid h2
                  clear h2
                  go_wp2_with fail
                  refine (before_b _ _ _ _ _ _ HX3.out HY3.out HLQ.out H1.out).mono ?_
                  rintro e wA ⟨rfl, mA, rfl⟩
                  have hYA := HY3.out.below (below_drewN w3 mA)
                  have hXA := HX3.out.below (below_drewN w3 mA)
                  have hBA := HB3.out.trans ((below_drewN w3 mA).mono HB3.out.size)
                  generalize World.drewN w3 mA = wA at hYA hXA hBA ⊢
                  go_wp2_with fail
                  refine (before_b _ _ _ _ _ _ hYA hXA HLQ.out.symm H2.out).mono ?_
                  rintro e wB ⟨rfl, mB, rfl⟩
                  have hBB := hBA.trans ((below_drewN wA mB).mono hBA.size)
                  generalize World.drewN wA mB = wB at hBB ⊢
                  go_wp2_with fail
                  go_roundw
                  case rel => exact ⟨q + 1, true, by omega, by go_num, rfl, by rw [HST.out, HFB.out, H1.out, H2.out]; rfl, hBB⟩
                  case measure => simp [intOf]; omega
                · have H2 := Lib.hid h2
                  clear h2
                  go_wp2_with fail
                  refine (before_b _ _ _ _ _ _ HX3.out HY3.out HLQ.out H1.out).mono ?_
                  rintro e wA ⟨rfl, mA, rfl⟩
                  have hYA := HY3.out.below (below_drewN w3 mA)
                  have hXA := HX3.out.below (below_drewN w3 mA)
                  have hBA := HB3.out.trans ((below_drewN w3 mA).mono HB3.out.size)
                  generalize World.drewN w3 mA = wA at hYA hXA hBA ⊢
                  go_wp2_with fail
                  refine (before_b _ _ _ _ _ _ hYA hXA HLQ.out.symm H2.out).mono ?_
                  rintro e wB ⟨rfl, mB, rfl⟩
                  have hBB := hBA.trans ((below_drewN wA mB).mono hBA.size)
                  generalize World.drewN wA mB = wB at hBB ⊢
                  go_wp2_with fail
                  go_roundw
                  case rel => exact ⟨q + 1, false, by omega, by go_num, rfl, by rw [HST.out, HFB.out, H1.out, H2.out]; rfl, hBB⟩
                  case measure => simp [intOf]; omega
              · have H1 := Lib.hid h1
                clear h1
                go_wp2_with fail
                refine (before_b _ _ _ _ _ _ HX3.out HY3.out HLQ.out H1.out).mono ?_
                rintro e wA ⟨rfl, mA, rfl⟩
                have hYA := HY3.out.below (below_drewN w3 mA)
                have hXA := HX3.out.below (below_drewN w3 mA)
                have hBA := HB3.out.trans ((below_drewN w3 mA).mono HB3.out.size)
                generalize World.drewN w3 mA = wA at hYA hXA hBA ⊢
                go_wp2_with fail
                go_roundw
                case rel => exact ⟨q + 1, false, by omega, by go_num, rfl, by rw [HST.out, HFB.out, H1.out]; rfl, hBA⟩
                case measure => simp [intOf]; omega
            · go_wp2_with fail
              go_roundw
              case rel => exact ⟨q + 1, true, by omega, by go_num, rfl, by rw [HST.out, HFB.out]; rfl, HB3.out⟩
              case measure => simp [intOf]; omega
          · obtain rfl : q = s := by omega
            have hd1 : (distTo xs (q + 1)).length = if fb = true then k else k + 1 := by
              have h := HFB.out
              have h2 := HDL.out
              unfold distTo
              cases fb
              · rw [if_neg (by simpa using h)]; simp [h2]
              · rw [if_pos (by simpa using h)]; simp [h2]
            have HD1 := Lib.hid hd1
            have HBN := Lib.hid (HB2.out.trans (HBQ.out.mono HB2.out.size))
            have HRN := Lib.hid (HNR.out.below HBQ.out)
            clear hd1
            cases fb
            all_goals
              go_wp2_with fail
              go_roundw
              case rel => exact ⟨q + 1, _, by omega, by go_num, by first | rfl | go_num, by first | omega | (simp; omega), by rw [HD1.out]; rfl, HRN.out, HBN.out⟩
              case measure => simp [intOf]; omega
    · obtain rfl : s = 8 := by omega
      go_wp2_with fail
      go_ret2
      exact ⟨_, by rw [HDL.out]; rfl, hbest, hb0⟩
end Go.Proofs.Ytlgonmnbedddaaa
