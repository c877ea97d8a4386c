/- The reference's Start and Complete. -/
import Derived.Test.YtjjgegpglabppaaRNext
import Derived.Test.YtjjgegpglabppaaCompl
set_option linter.unusedVariables false
set_option linter.unusedSimpArgs false
namespace Go.Proofs.Ytjjgegpglabppaa
open Go.RowKit

set_option maxRecDepth 100000 in
set_option maxHeartbeats 800000 in
theorem refStart_any (v : Value) (xs : List Int) (n : Int) (w : World) (hr : Reads w v xs) :
    Calls Try.prog 6 #[v, .int .i64 n] w fun e w' => e = .returned (.bool (decide ((xs.length : Int) ≤ n) && rowsB xs n)) ∧ ∃ m, w' = w.drewN m := by
  have hr0 := hr
  obtain ⟨a, cap, rfl, _, _, _⟩ := hr.open
  clear hr
  by_cases h : (xs.length : Int) ≤ n
  · rw [decide_eq_true h, Bool.true_and]
    go_enter Try.func6, Try.ntmps6
    go_wp2_with (go_at_call 13; refine (rows_any _ _ _ _ hr0).mono ?_; rintro e w' ⟨rfl, m, rfl⟩)
    go_ret
    exact ⟨rfl, _, rfl⟩
  · rw [decide_eq_false h, Bool.false_and]
    go_enter Try.func6, Try.ntmps6
    go_wp2_with fail
    go_ret
    exact ⟨rfl, 0, rfl⟩

/-- the first order that begins with the rows -/
def complR (xs : List Int) (n : Nat) : Option (List Int) := (allTo n n).find? (fun m => decide (xs <+: m))
theorem compl_same {xs : List Int} {n : Nat} (hl : xs.length ≤ n) (hr : rowsB xs n = true) : complL xs n = complR xs n := by
  unfold complL complR
  rw [clears_start hr hl, ← all_clears, ← List.head?_filter, List.head?_eq_getElem?]
theorem prefix_take {xs row : List Int} : decide (xs <+: row) = decide (xs = row.take xs.length) := by
  rw [decide_eq_decide, List.prefix_iff_eq_take]

set_option maxRecDepth 100000 in
set_option maxHeartbeats 3200000 in
theorem refComplete_any (v : Value) (xs : List Int) (n : Nat) (w : World) (hr : Reads w v xs) (h7 : n ≤ 7) (hl : xs.length ≤ n) :
    Calls Try.prog 8 #[v, .int .i64 n] w (RetOpt w (complR xs n)) := by
  have hr0 := hr
  obtain ⟨a, cap, rfl, _, _, _⟩ := hr.open
  clear hr
  go_enter Try.func8, Try.ntmps8
  go_wp2_with fail
  refine (refAll_any n _ h7).mono ?_
  rintro e w1 ⟨v1, rfl, hm⟩
  obtain ⟨ao, co, rfl, _, _, hcells⟩ := hm.open
  have hln := allTo_len h7 (Nat.le_refl n)
  have hb1 := hm.below
  have hr1 := hr0.below hb1
  have hmem : ∀ k, k < (allTo n n).length → ((allTo n n).getD k []).length = n := fun k hk => (allTo_rows n n _ (by
    rw [List.getD_eq_getElem?_getD, List.getElem?_eq_getElem hk]; exact List.getElem_mem _)).2.2
  have HNX : Hid (complR xs n = (allTo n n).find? (fun m => decide (xs <+: m))) := Lib.hid rfl
  generalize allTo n n = L at *
  generalize hL : L.length = k0 at *
  obtain ⟨_, _, he, _, _, hcx⟩ := hr1.open
  cases he
  generalize hN : xs.length = q at *
  have HN := Lib.hid hN
  have HL := Lib.hid hL
  have HC := Lib.hid hcells
  have HM := Lib.hid hmem
  have HX := Lib.hid hcx
  clear hm hr0 hcells hL hmem hN hcx
  go_wp2_with fail
  go_loopw [7, 8, 9] (fun i _ _ wr => ∃ k m : Nat, k ≤ k0 ∧ i = .int .i64 k ∧ (∀ j, j < k → decide (xs <+: L.getD j []) = false) ∧ wr = w1.drewN m) (fun i _ _ _ => k0 - (intOf i).toNat)
  case atStart => exact ⟨0, 0, by omega, rfl, fun j hj => by omega, rfl⟩
  case round =>
    obtain ⟨k, m, hk, rfl, hno, rfl⟩ := hrel
    have HNO := Lib.hid hno
    clear hno
    by_cases hlt : k < k0
    · obtain ⟨b, r, rfl, hb, hc, hrow⟩ := HC.out k hlt
      have hlr := HM.out k hlt
      have HFA := Lib.hid (find_at (p := fun m => decide (xs <+: m)) (l := L) (k := k) (by rw [HL.out]; exact hlt) HNO.out)
      have HNO2 : Hid (decide (xs <+: L.getD k []) = false → ∀ j, j < k + 1 → decide (xs <+: L.getD j []) = false) := Lib.hid (fun h j hj => by
        by_cases e : j = k
        · subst e; exact h
        · exact HNO.out j (by omega))
      generalize L.getD k [] = row at hrow hlr HFA HNO2
      obtain ⟨ra, rc, hre, hrc1, hrc2, hcr⟩ := hrow.reads.open
      rw [hlr] at hre hcr hrc1
      subst hre
      have HCR := Lib.hid hcr
      have HRR := Lib.hid hrow.reads
      have HLR := Lib.hid hlr
      have j0 : (0 : Int) ≤ (k : Int) := by omega
      have j1 : (k : Int) < (k0 : Int) := by omega
      clear hcr hrow hlr hrc2
      go_wp2_with fail
      generalize hW : World.drewN w1 m = W
      have hbW : Below w1.heap.size w1 W := by rw [← hW]; exact below_drewN _ _
      have hcW : W.cell? ⟨b, k, none⟩ = some (.slice ra n rc) := (hbW.cell (p := ⟨b, k, none⟩) hb).trans hc
      have HW := Lib.hid hW
      clear hW hc
      go_loopw [8, 9] (fun s i wr => ∃ (j m' : Nat) (c : Bool), j ≤ q ∧ i = .int .i64 j ∧ s = .bool c ∧ decide (xs.take j = row.take j) = c ∧ wr = W.drewN m') (fun _ i _ => q - (intOf i).toNat)
      case atStart => exact ⟨0, 0, true, by omega, rfl, rfl, by simp, rfl⟩
      case round =>
        obtain ⟨j, m', c, hj, rfl, rfl, hdc, rfl⟩ := hrel
        have HDC := Lib.hid hdc
        clear hdc
        by_cases hjq : j < q
        · obtain ⟨xb, xo, rfl, hxb, hxc⟩ := HX.out j hjq
          obtain ⟨rb, ro, rfl, hrb, hrc⟩ := HCR.out j (by omega)
          have hxW := (hbW.cell (p := ⟨xb, xo + j, none⟩) hxb).trans hxc
          have hrW := (hbW.cell (p := ⟨rb, ro + j, none⟩) hrb).trans hrc
          have jj0 : (0 : Int) ≤ (j : Int) := by omega
          have jj1 : (j : Int) < (q : Int) := by omega
          have jj2 : (j : Int) < (n : Int) := by omega
          clear hxc hrc
          cases c
          · go_wp2_with fail
            go_quiet (fail)
            go_wp2_with fail
            go_roundw
            case rel => exact ⟨j + 1, _, false, by omega, by go_num, rfl, (by
              have h := HDC.out
              rw [decide_eq_false_iff_not] at h ⊢
              intro e; apply h
              have := congrArg (List.take j) e
              rwa [List.take_take, List.take_take, Nat.min_eq_left (by omega)] at this), by first | rfl | exact World.drewN_drewN ..⟩
            case measure => simp [intOf]; omega
          · by_cases he : gi row j = gi xs j
            · have he' : (gi row j == gi xs j) = true := by simp [he]
              have HE := Lib.hid he
              go_wp2_with fail
              go_quiet (fail)
              go_wp2_with fail
              go_roundw
              case rel => exact ⟨j + 1, _, true, by omega, by go_num, rfl, (by
                have h := HDC.out
                rw [decide_eq_true_eq] at h ⊢
                exact take_eq_succ (by have := HN.out; omega) (by have := HLR.out; omega) h HE.out.symm), by first | rfl | exact World.drewN_drewN ..⟩
              case measure => simp [intOf]; omega
            · have he' : (gi row j == gi xs j) = false := by simp [he]
              have HE := Lib.hid he
              go_wp2_with fail
              go_quiet (fail)
              go_wp2_with fail
              go_roundw
              case rel => exact ⟨j + 1, _, false, by omega, by go_num, rfl, (by
                rw [decide_eq_false_iff_not]
                intro e
                apply HE.out
                have h1 := gi_take (xs := xs) (k := j + 1) (j := j) (by omega)
                have h2 := gi_take (xs := row) (k := j + 1) (j := j) (by omega)
                rw [← h1, ← h2, e]), by first | rfl | exact World.drewN_drewN ..⟩
              case measure => simp [intOf]; omega
        · obtain rfl : j = q := by omega
          have hpre : decide (xs <+: row) = c := by
            have e : xs.take j = xs := List.take_of_length_le (by rw [HN.out]; omega)
            rw [prefix_take, HN.out, ← HDC.out, e]
          have HP := Lib.hid hpre
          clear hpre
          cases c
          · go_wp2_with fail
            go_roundw
            case rel => exact ⟨k + 1, m + m', by omega, by go_num, HNO2.out HP.out, by rw [← HW.out]; first | rfl | exact World.drewN_drewN ..⟩
            case measure => simp [intOf]; omega
          · have HNS : Hid (complR xs n = some row) := Lib.hid (by rw [HNX.out]; exact HFA.out HP.out)
            have hbW2 : Below w.heap.size w W := hb1.trans (hbW.mono hb1.size)
            have hb2 := hbW2.trans ((below_drewN W m').mono hbW2.size)
            have hrd := (HRR.out.below hbW).below (below_drewN W m')
            go_wp2_with fail
            go_ret2
            exact ⟨_, by rw [HNS.out]; rfl, by rw [HNS.out]; exact hrd, hb2⟩
    · obtain rfl : k = k0 := by omega
      have HNS : Hid (complR xs n = none) := Lib.hid (by rw [HNX.out]; exact find_end (fun j hj => HNO.out j (by have := HL.out; omega)))
      have hb2 : Below w.heap.size w (w1.drewN m) := hb1.trans ((below_drewN w1 m).mono hb1.size)
      go_wp2_with fail
      go_ret2
      exact ⟨_, by rw [HNS.out]; rfl, by rw [HNS.out]; exact Reads.nil _, hb2⟩
end Go.Proofs.Ytjjgegpglabppaa
