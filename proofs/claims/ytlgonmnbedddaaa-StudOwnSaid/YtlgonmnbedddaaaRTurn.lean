/- The reference's Turn. -/
import Derived.Test.YtlgonmnbedddaaaTurned
set_option linter.unusedVariables false
set_option linter.unusedSimpArgs false
namespace Go.Proofs.Ytlgonmnbedddaaa
open Go.RowKit

def refE (xs : List Int) (b0 b1 : Bool) (i : Nat) : Int :=
  if b1 then (xs.length : Int) - 1 - (if b0 then gi xs (xs.length - 1 - i) else gi xs i) else (if b0 then gi xs (xs.length - 1 - i) else gi xs i)
def refTo (xs : List Int) (b0 b1 : Bool) (k : Nat) : List Int := (List.range k).map (refE xs b0 b1)
theorem refTo_succ (xs : List Int) (b0 b1 : Bool) (k : Nat) : refTo xs b0 b1 (k + 1) = refTo xs b0 b1 k ++ [refE xs b0 b1 k] := by simp [refTo, List.range_succ]
theorem refTo_len (xs : List Int) (b0 b1 : Bool) (k : Nat) : (refTo xs b0 b1 k).length = k := by simp [refTo]
theorem gi_refTo {xs : List Int} {b0 b1 : Bool} {k i : Nat} (h : i < k) : gi (refTo xs b0 b1 k) i = refE xs b0 b1 i := by
  rw [gi_lt (by rw [refTo_len]; exact h)]; simp [refTo]
theorem list_ext_gi {xs ys : List Int} (hl : xs.length = ys.length) (h : ∀ i, i < xs.length → gi xs i = gi ys i) : xs = ys := by
  refine List.ext_getElem hl fun i h1 h2 => ?_
  have := h i h1
  rwa [gi_lt h1, gi_lt h2] at this
theorem refTo_stage (xs : List Int) (s : Nat) : refTo xs (s.testBit 0) (s.testBit 1) xs.length = stage xs s 2 := by
  refine list_ext_gi (by rw [refTo_len, len_stage]) fun i hi => ?_
  rw [refTo_len] at hi
  rw [gi_refTo hi]
  unfold refE
  rcases h1 : s.testBit 1 with _ | _
  · rw [stage_no h1]
    rcases h0 : s.testBit 0 with _ | _
    · rw [stage_no h0]; rfl
    · rw [stage_yes h0]; simp only [stage, stageF]; rw [gi_rev hi]; rfl
  · rw [stage_yes h1]
    have hl := len_stage xs s 1
    simp only [stageF]
    rw [gi_mir (by rw [hl]; exact hi), hl]
    rcases h0 : s.testBit 0 with _ | _
    · rw [stage_no h0]; rfl
    · rw [stage_yes h0]; simp only [stage, stageF]; rw [gi_rev hi]; rfl
theorem refE_rng {xs : List Int} (ho : ordB xs = true) (b0 b1 : Bool) (i : Nat) : 0 ≤ refE xs b0 b1 i ∧ refE xs b0 b1 i < xs.length := by
  have h1 := ordB_under ho i
  have h2 := ordB_under ho (xs.length - 1 - i)
  unfold refE
  split <;> split <;> omega

set_option maxRecDepth 100000 in
set_option maxHeartbeats 1600000 in
theorem refTurn_0 (v : Value) (xs : List Int) (w : World) (hr : Reads w v xs) (ho : ordB xs = true) :
    Calls Try.prog 29 #[v, .int .i64 0] w fun e w' => ∃ v', e = .returned v' ∧ Reads w' v' (turnL xs 0) ∧ Below w.heap.size w w' := by
  obtain ⟨a, cap, rfl, h1, h2, hcell⟩ := hr.open
  obtain ⟨hl1, hl2⟩ := ordB_len ho
  have HR := Lib.hid (ordB_under ho)
  have HO := Lib.hid ho
  have hst : refTo xs false false xs.length = stage xs 0 2 := refTo_stage xs 0
  have HST := Lib.hid hst
  obtain ⟨i0, hi0, hz0, hz1, hz2⟩ := info_parts infoInt
  clear ho h2 h1 hr hst
  go_enter Try.func29, Try.ntmps29
  go_wp2_with fail
  go_loopw [6, 7] (fun v i wr => ∃ k : Nat, k ≤ xs.length ∧ i = .int .i64 k ∧ Col w wr v (refTo xs false false k)) (fun _ i _ => xs.length - (intOf i).toNat)
  case atStart => exact ⟨0, by omega, rfl, Col.nil _⟩
  case round =>
    obtain ⟨k, hk, rfl, hcol⟩ := hrel
    by_cases hlt : k < xs.length
    · obtain ⟨b, off, rfl, hb, hc⟩ := hcell k hlt
      obtain ⟨j, hj⟩ : ∃ j : Nat, xs.length - 1 - k = j := ⟨_, rfl⟩
      obtain ⟨_, _, he, _, hcj⟩ := hcell j (by omega)
      cases he
      have hc' : wr.cell? ⟨b, off + k, none⟩ = some (.int .i64 (gi xs k)) := (hcol.below.cell (p := ⟨b, off + k, none⟩) hb).trans hc
      have hcj' : wr.cell? ⟨b, off + j, none⟩ = some (.int .i64 (gi xs j)) := (hcol.below.cell (p := ⟨b, off + j, none⟩) hb).trans hcj
      have hk0 : (0 : Int) ≤ (k : Int) := by omega
      have hkl : (k : Int) < (xs.length : Int) := by omega
      have hj0 : (0 : Int) ≤ (j : Int) := by omega
      have hjl : (j : Int) < (xs.length : Int) := by omega
      have hjk : (xs.length : Int) - 1 - (k : Int) = j := by omega
      have hr1 := HR.out k
      obtain ⟨hr11, hr12⟩ := hr1
      have hr2 := HR.out j
      obtain ⟨hr21, hr22⟩ := hr2
      have HL : Hid ((refTo xs false false k).length ≤ 1000000000) := Lib.hid (by rw [refTo_len]; omega)
      have HJ := Lib.hid hj
      clear hcell hc hcj hj
      go_wp2_with (at_builtin; refine append_int rfl _ _ rfl hcol rfl _ rfl HL.out ?_; intro v' w' hcol' hne)
      go_roundw
      case rel => exact ⟨k + 1, by omega, by go_num, by rw [refTo_succ]; unfold refE; rw [HJ.out]; exact hcol'⟩
      case measure => simp [intOf]; omega
    · have hkl : xs.length = k := by omega
      have HK := Lib.hid hkl
      clear hkl hcell
      go_wp2_with fail
      go_ret
      refine ⟨_, rfl, ?_, hcol.below⟩
      have h9 := hcol.reads
      rw [← HK.out, HST.out] at h9
      exact stage_no_of h9 (by decide)

set_option maxRecDepth 100000 in
set_option maxHeartbeats 1600000 in
theorem refTurn_1 (v : Value) (xs : List Int) (w : World) (hr : Reads w v xs) (ho : ordB xs = true) :
    Calls Try.prog 29 #[v, .int .i64 1] w fun e w' => ∃ v', e = .returned v' ∧ Reads w' v' (turnL xs 1) ∧ Below w.heap.size w w' := by
  obtain ⟨a, cap, rfl, h1, h2, hcell⟩ := hr.open
  obtain ⟨hl1, hl2⟩ := ordB_len ho
  have HR := Lib.hid (ordB_under ho)
  have HO := Lib.hid ho
  have hst : refTo xs true false xs.length = stage xs 1 2 := refTo_stage xs 1
  have HST := Lib.hid hst
  obtain ⟨i0, hi0, hz0, hz1, hz2⟩ := info_parts infoInt
  clear ho h2 h1 hr hst
  go_enter Try.func29, Try.ntmps29
  go_wp2_with fail
  go_loopw [6, 7] (fun v i wr => ∃ k : Nat, k ≤ xs.length ∧ i = .int .i64 k ∧ Col w wr v (refTo xs true false k)) (fun _ i _ => xs.length - (intOf i).toNat)
  case atStart => exact ⟨0, by omega, rfl, Col.nil _⟩
  case round =>
    obtain ⟨k, hk, rfl, hcol⟩ := hrel
    by_cases hlt : k < xs.length
    · obtain ⟨b, off, rfl, hb, hc⟩ := hcell k hlt
      obtain ⟨j, hj⟩ : ∃ j : Nat, xs.length - 1 - k = j := ⟨_, rfl⟩
      obtain ⟨_, _, he, _, hcj⟩ := hcell j (by omega)
      cases he
      have hc' : wr.cell? ⟨b, off + k, none⟩ = some (.int .i64 (gi xs k)) := (hcol.below.cell (p := ⟨b, off + k, none⟩) hb).trans hc
      have hcj' : wr.cell? ⟨b, off + j, none⟩ = some (.int .i64 (gi xs j)) := (hcol.below.cell (p := ⟨b, off + j, none⟩) hb).trans hcj
      have hk0 : (0 : Int) ≤ (k : Int) := by omega
      have hkl : (k : Int) < (xs.length : Int) := by omega
      have hj0 : (0 : Int) ≤ (j : Int) := by omega
      have hjl : (j : Int) < (xs.length : Int) := by omega
      have hjk : (xs.length : Int) - 1 - (k : Int) = j := by omega
      have hr1 := HR.out k
      obtain ⟨hr11, hr12⟩ := hr1
      have hr2 := HR.out j
      obtain ⟨hr21, hr22⟩ := hr2
      have HL : Hid ((refTo xs true false k).length ≤ 1000000000) := Lib.hid (by rw [refTo_len]; omega)
      have HJ := Lib.hid hj
      clear hcell hc hcj hj
      go_wp2_with (at_builtin; refine append_int rfl _ _ rfl hcol rfl _ rfl HL.out ?_; intro v' w' hcol' hne)
      go_roundw
      case rel => exact ⟨k + 1, by omega, by go_num, by rw [refTo_succ]; unfold refE; rw [HJ.out]; exact hcol'⟩
      case measure => simp [intOf]; omega
    · have hkl : xs.length = k := by omega
      have HK := Lib.hid hkl
      clear hkl hcell
      go_wp2_with fail
      go_ret
      refine ⟨_, rfl, ?_, hcol.below⟩
      have h9 := hcol.reads
      rw [← HK.out, HST.out] at h9
      exact stage_no_of h9 (by decide)

set_option maxRecDepth 100000 in
set_option maxHeartbeats 1600000 in
theorem refTurn_2 (v : Value) (xs : List Int) (w : World) (hr : Reads w v xs) (ho : ordB xs = true) :
    Calls Try.prog 29 #[v, .int .i64 2] w fun e w' => ∃ v', e = .returned v' ∧ Reads w' v' (turnL xs 2) ∧ Below w.heap.size w w' := by
  obtain ⟨a, cap, rfl, h1, h2, hcell⟩ := hr.open
  obtain ⟨hl1, hl2⟩ := ordB_len ho
  have HR := Lib.hid (ordB_under ho)
  have HO := Lib.hid ho
  have hst : refTo xs false true xs.length = stage xs 2 2 := refTo_stage xs 2
  have HST := Lib.hid hst
  obtain ⟨i0, hi0, hz0, hz1, hz2⟩ := info_parts infoInt
  clear ho h2 h1 hr hst
  go_enter Try.func29, Try.ntmps29
  go_wp2_with fail
  go_loopw [6, 7] (fun v i wr => ∃ k : Nat, k ≤ xs.length ∧ i = .int .i64 k ∧ Col w wr v (refTo xs false true k)) (fun _ i _ => xs.length - (intOf i).toNat)
  case atStart => exact ⟨0, by omega, rfl, Col.nil _⟩
  case round =>
    obtain ⟨k, hk, rfl, hcol⟩ := hrel
    by_cases hlt : k < xs.length
    · obtain ⟨b, off, rfl, hb, hc⟩ := hcell k hlt
      obtain ⟨j, hj⟩ : ∃ j : Nat, xs.length - 1 - k = j := ⟨_, rfl⟩
      obtain ⟨_, _, he, _, hcj⟩ := hcell j (by omega)
      cases he
      have hc' : wr.cell? ⟨b, off + k, none⟩ = some (.int .i64 (gi xs k)) := (hcol.below.cell (p := ⟨b, off + k, none⟩) hb).trans hc
      have hcj' : wr.cell? ⟨b, off + j, none⟩ = some (.int .i64 (gi xs j)) := (hcol.below.cell (p := ⟨b, off + j, none⟩) hb).trans hcj
      have hk0 : (0 : Int) ≤ (k : Int) := by omega
      have hkl : (k : Int) < (xs.length : Int) := by omega
      have hj0 : (0 : Int) ≤ (j : Int) := by omega
      have hjl : (j : Int) < (xs.length : Int) := by omega
      have hjk : (xs.length : Int) - 1 - (k : Int) = j := by omega
      have hr1 := HR.out k
      obtain ⟨hr11, hr12⟩ := hr1
      have hr2 := HR.out j
      obtain ⟨hr21, hr22⟩ := hr2
      have HL : Hid ((refTo xs false true k).length ≤ 1000000000) := Lib.hid (by rw [refTo_len]; omega)
      have HJ := Lib.hid hj
      clear hcell hc hcj hj
      go_wp2_with (at_builtin; refine append_int rfl _ _ rfl hcol rfl _ rfl HL.out ?_; intro v' w' hcol' hne)
      go_roundw
      case rel => exact ⟨k + 1, by omega, by go_num, by rw [refTo_succ]; unfold refE; rw [HJ.out]; exact hcol'⟩
      case measure => simp [intOf]; omega
    · have hkl : xs.length = k := by omega
      have HK := Lib.hid hkl
      clear hkl hcell
      go_wp2_with fail
      go_ret
      refine ⟨_, rfl, ?_, hcol.below⟩
      have h9 := hcol.reads
      rw [← HK.out, HST.out] at h9
      exact stage_no_of h9 (by decide)

set_option maxRecDepth 100000 in
set_option maxHeartbeats 1600000 in
theorem refTurn_3 (v : Value) (xs : List Int) (w : World) (hr : Reads w v xs) (ho : ordB xs = true) :
    Calls Try.prog 29 #[v, .int .i64 3] w fun e w' => ∃ v', e = .returned v' ∧ Reads w' v' (turnL xs 3) ∧ Below w.heap.size w w' := by
  obtain ⟨a, cap, rfl, h1, h2, hcell⟩ := hr.open
  obtain ⟨hl1, hl2⟩ := ordB_len ho
  have HR := Lib.hid (ordB_under ho)
  have HO := Lib.hid ho
  have hst : refTo xs true true xs.length = stage xs 3 2 := refTo_stage xs 3
  have HST := Lib.hid hst
  obtain ⟨i0, hi0, hz0, hz1, hz2⟩ := info_parts infoInt
  clear ho h2 h1 hr hst
  go_enter Try.func29, Try.ntmps29
  go_wp2_with fail
  go_loopw [6, 7] (fun v i wr => ∃ k : Nat, k ≤ xs.length ∧ i = .int .i64 k ∧ Col w wr v (refTo xs true true k)) (fun _ i _ => xs.length - (intOf i).toNat)
  case atStart => exact ⟨0, by omega, rfl, Col.nil _⟩
  case round =>
    obtain ⟨k, hk, rfl, hcol⟩ := hrel
    by_cases hlt : k < xs.length
    · obtain ⟨b, off, rfl, hb, hc⟩ := hcell k hlt
      obtain ⟨j, hj⟩ : ∃ j : Nat, xs.length - 1 - k = j := ⟨_, rfl⟩
      obtain ⟨_, _, he, _, hcj⟩ := hcell j (by omega)
      cases he
      have hc' : wr.cell? ⟨b, off + k, none⟩ = some (.int .i64 (gi xs k)) := (hcol.below.cell (p := ⟨b, off + k, none⟩) hb).trans hc
      have hcj' : wr.cell? ⟨b, off + j, none⟩ = some (.int .i64 (gi xs j)) := (hcol.below.cell (p := ⟨b, off + j, none⟩) hb).trans hcj
      have hk0 : (0 : Int) ≤ (k : Int) := by omega
      have hkl : (k : Int) < (xs.length : Int) := by omega
      have hj0 : (0 : Int) ≤ (j : Int) := by omega
      have hjl : (j : Int) < (xs.length : Int) := by omega
      have hjk : (xs.length : Int) - 1 - (k : Int) = j := by omega
      have hr1 := HR.out k
      obtain ⟨hr11, hr12⟩ := hr1
      have hr2 := HR.out j
      obtain ⟨hr21, hr22⟩ := hr2
      have HL : Hid ((refTo xs true true k).length ≤ 1000000000) := Lib.hid (by rw [refTo_len]; omega)
      have HJ := Lib.hid hj
      clear hcell hc hcj hj
      go_wp2_with (at_builtin; refine append_int rfl _ _ rfl hcol rfl _ rfl HL.out ?_; intro v' w' hcol' hne)
      go_roundw
      case rel => exact ⟨k + 1, by omega, by go_num, by rw [refTo_succ]; unfold refE; rw [HJ.out]; exact hcol'⟩
      case measure => simp [intOf]; omega
    · have hkl : xs.length = k := by omega
      have HK := Lib.hid hkl
      clear hkl hcell
      go_wp2_with fail
      go_ret
      refine ⟨_, rfl, ?_, hcol.below⟩
      have h9 := hcol.reads
      rw [← HK.out, HST.out] at h9
      exact stage_no_of h9 (by decide)

set_option maxRecDepth 100000 in
set_option maxHeartbeats 1600000 in
theorem refTurn_4 (v : Value) (xs : List Int) (w : World) (hr : Reads w v xs) (ho : ordB xs = true) :
    Calls Try.prog 29 #[v, .int .i64 4] w fun e w' => ∃ v', e = .returned v' ∧ Reads w' v' (turnL xs 4) ∧ Below w.heap.size w w' := by
  obtain ⟨a, cap, rfl, h1, h2, hcell⟩ := hr.open
  obtain ⟨hl1, hl2⟩ := ordB_len ho
  have HR := Lib.hid (ordB_under ho)
  have HO := Lib.hid ho
  have hst : refTo xs false false xs.length = stage xs 4 2 := refTo_stage xs 4
  have HST := Lib.hid hst
  obtain ⟨i0, hi0, hz0, hz1, hz2⟩ := info_parts infoInt
  clear ho h2 h1 hr hst
  go_enter Try.func29, Try.ntmps29
  go_wp2_with fail
  go_loopw [6, 7] (fun v i wr => ∃ k : Nat, k ≤ xs.length ∧ i = .int .i64 k ∧ Col w wr v (refTo xs false false k)) (fun _ i _ => xs.length - (intOf i).toNat)
  case atStart => exact ⟨0, by omega, rfl, Col.nil _⟩
  case round =>
    obtain ⟨k, hk, rfl, hcol⟩ := hrel
    by_cases hlt : k < xs.length
    · obtain ⟨b, off, rfl, hb, hc⟩ := hcell k hlt
      obtain ⟨j, hj⟩ : ∃ j : Nat, xs.length - 1 - k = j := ⟨_, rfl⟩
      obtain ⟨_, _, he, _, hcj⟩ := hcell j (by omega)
      cases he
      have hc' : wr.cell? ⟨b, off + k, none⟩ = some (.int .i64 (gi xs k)) := (hcol.below.cell (p := ⟨b, off + k, none⟩) hb).trans hc
      have hcj' : wr.cell? ⟨b, off + j, none⟩ = some (.int .i64 (gi xs j)) := (hcol.below.cell (p := ⟨b, off + j, none⟩) hb).trans hcj
      have hk0 : (0 : Int) ≤ (k : Int) := by omega
      have hkl : (k : Int) < (xs.length : Int) := by omega
      have hj0 : (0 : Int) ≤ (j : Int) := by omega
      have hjl : (j : Int) < (xs.length : Int) := by omega
      have hjk : (xs.length : Int) - 1 - (k : Int) = j := by omega
      have hr1 := HR.out k
      obtain ⟨hr11, hr12⟩ := hr1
      have hr2 := HR.out j
      obtain ⟨hr21, hr22⟩ := hr2
      have HL : Hid ((refTo xs false false k).length ≤ 1000000000) := Lib.hid (by rw [refTo_len]; omega)
      have HJ := Lib.hid hj
      clear hcell hc hcj hj
      go_wp2_with (at_builtin; refine append_int rfl _ _ rfl hcol rfl _ rfl HL.out ?_; intro v' w' hcol' hne)
      go_roundw
      case rel => exact ⟨k + 1, by omega, by go_num, by rw [refTo_succ]; unfold refE; rw [HJ.out]; exact hcol'⟩
      case measure => simp [intOf]; omega
    · have hkl : xs.length = k := by omega
      have HK := Lib.hid hkl
      clear hkl hcell
      generalize wr = W1 at *
      have hrd := hcol.reads
      rw [← HK.out, HST.out] at hrd
      have hb0 := hcol.below
      have hord := ord_stage HO.out 4 2
      have hlen := len_stage xs 4 2
      generalize hys : stage xs 4 2 = ys at hrd hord hlen
      have HYS := Lib.hid hys
      have HLEN := Lib.hid hlen
      obtain ⟨a2, cap2, rfl, _, _, hcell2⟩ := hrd.open
      have hnd : ys.Nodup := by simp only [ordB, decide_eq_true_eq] at hord; exact hord.2.2.2
      have HND := Lib.hid hnd
      have HS2 := Lib.hid (ordB_under hord)
      have HO2 := Lib.hid hord
      rw [hlen] at hcell2 ⊢
      clear hcol hrd hord hnd hys hlen
      go_wp2_with (refine wpList_make_row _ rfl _ _ 22 rfl 3 i0 (.int .i64 0) Try.underlying22 hi0 hz0 hz1 rfl .i64 .i64 xs.length rfl rfl (by rw [hz2]; omega) (by omega) ?_)
      have hrow := World.rowIs_made W1 (.int .i64 0) xs.length 3
      have hbw := (Below.refl W1.heap.size W1).alloc (Nat.le_refl _) (.cells (madeCells #[.int .i64 0] xs.length) 3)
      generalize hW0 : World.alloc W1 _ = W0 at hrow hbw ⊢
      clear hW0
      go_loopw [10] (fun i wq => ∃ q : Nat, q ≤ xs.length ∧ i = .int .i64 q ∧ wq.rowIs W1.heap.size 3 xs.length (fun j => .int .i64 (excAt ys q j)) ∧ Below W1.heap.size W1 wq) (fun i _ => xs.length - (intOf i).toNat)
      case atStart => exact ⟨0, by omega, rfl, hrow.congr (fun i hi => by simp [excAt]), hbw⟩
      case round =>
        obtain ⟨q, hq, rfl, hrw, hbq⟩ := hrel
        by_cases hlt : q < xs.length
        · obtain ⟨b, off, rfl, hb, hc⟩ := hcell2 q hlt
          have hc' : wr.cell? ⟨b, off + q, none⟩ = some (.int .i64 (gi ys q)) := (hbq.cell (p := ⟨b, off + q, none⟩) hb).trans hc
          have hk0 : (0 : Int) ≤ (q : Int) := by omega
          have hkl : (q : Int) < (xs.length : Int) := by omega
          have hs1 := HS2.out q
          rw [HLEN.out] at hs1
          obtain ⟨m, hm⟩ : ∃ m : Nat, gi ys q = m := ⟨(gi ys q).toNat, by omega⟩
          have hm2 : m < xs.length := by omega
          have hm3 : (m : Int) < (xs.length : Int) := by omega
          have hm0 : (0 : Int) ≤ (m : Int) := by omega
          rw [hm] at hc'
          have HM := Lib.hid hm
          have hst := hrw.cell hm2
          have hfr := hrw.frozen m
          clear hcell2 hc hm hs1
          go_wp2_with fail
          have hrel' : ∃ r : Nat, r ≤ xs.length ∧ Value.int .i64 ((q : Int) + 1) = .int .i64 r ∧ (wr.setCell ⟨W1.heap.size, m, none⟩ (.int .i64 (q : Int))).rowIs W1.heap.size 3 xs.length (fun j => .int .i64 (excAt ys r j)) ∧ Below W1.heap.size W1 (wr.setCell ⟨W1.heap.size, m, none⟩ (.int .i64 (q : Int))) := by
            refine ⟨q + 1, by omega, by go_num, (hrw.set m _).congr (fun j hj => ?_), hbq.setCell (Nat.le_refl _) _⟩
            have := excAt_succ HND.out (by rw [HLEN.out]; exact hlt) HM.out j
            by_cases e : j = m
            · rw [if_pos e] at this ⊢; rw [this]
            · rw [if_neg e] at this ⊢; rw [this]
          first
            | exact ⟨hrel', by simp [intOf]; omega⟩
            | (go_roundw
               case rel => exact hrel'
               case measure => simp [intOf]; omega)
        · have hkl : xs.length = q := by omega
          have HQ := Lib.hid hkl
          clear hkl hcell2
          go_wp2_with fail
          go_ret
          refine ⟨_, rfl, ?_, hb0.trans (hbq.mono hb0.size)⟩
          refine stage_yes_of (s := 4) (k := 2) ?_ (by decide)
          rw [HYS.out]
          show Reads wr _ (excL ys)
          have hex : (excL ys).length = xs.length := by rw [excL_len, HLEN.out]
          refine ⟨some ⟨W1.heap.size, 0, none⟩, xs.length, by rw [hex]; rfl, by rw [hex]; omega, by simp [maxLen]; omega, .inr ⟨W1.heap.size, 0, rfl, hrw.lt, fun j hj => ?_⟩⟩
          rw [hex] at hj
          rw [Nat.zero_add, hrw.cell hj]
          have hmem : (j : Int) ∈ ys := perm_mem HO2.out (by rw [HLEN.out]; exact hj)
          have htk : ys.take q = ys := List.take_of_length_le (by rw [HLEN.out, HQ.out]; omega)
          simp only [excAt, htk, if_pos hmem, Option.some.injEq, Value.int.injEq, true_and]
          rw [gi_exc (by rw [HLEN.out]; exact hj)]

set_option maxRecDepth 100000 in
set_option maxHeartbeats 1600000 in
theorem refTurn_5 (v : Value) (xs : List Int) (w : World) (hr : Reads w v xs) (ho : ordB xs = true) :
    Calls Try.prog 29 #[v, .int .i64 5] w fun e w' => ∃ v', e = .returned v' ∧ Reads w' v' (turnL xs 5) ∧ Below w.heap.size w w' := by
  obtain ⟨a, cap, rfl, h1, h2, hcell⟩ := hr.open
  obtain ⟨hl1, hl2⟩ := ordB_len ho
  have HR := Lib.hid (ordB_under ho)
  have HO := Lib.hid ho
  have hst : refTo xs true false xs.length = stage xs 5 2 := refTo_stage xs 5
  have HST := Lib.hid hst
  obtain ⟨i0, hi0, hz0, hz1, hz2⟩ := info_parts infoInt
  clear ho h2 h1 hr hst
  go_enter Try.func29, Try.ntmps29
  go_wp2_with fail
  go_loopw [6, 7] (fun v i wr => ∃ k : Nat, k ≤ xs.length ∧ i = .int .i64 k ∧ Col w wr v (refTo xs true false k)) (fun _ i _ => xs.length - (intOf i).toNat)
  case atStart => exact ⟨0, by omega, rfl, Col.nil _⟩
  case round =>
    obtain ⟨k, hk, rfl, hcol⟩ := hrel
    by_cases hlt : k < xs.length
    · obtain ⟨b, off, rfl, hb, hc⟩ := hcell k hlt
      obtain ⟨j, hj⟩ : ∃ j : Nat, xs.length - 1 - k = j := ⟨_, rfl⟩
      obtain ⟨_, _, he, _, hcj⟩ := hcell j (by omega)
      cases he
      have hc' : wr.cell? ⟨b, off + k, none⟩ = some (.int .i64 (gi xs k)) := (hcol.below.cell (p := ⟨b, off + k, none⟩) hb).trans hc
      have hcj' : wr.cell? ⟨b, off + j, none⟩ = some (.int .i64 (gi xs j)) := (hcol.below.cell (p := ⟨b, off + j, none⟩) hb).trans hcj
      have hk0 : (0 : Int) ≤ (k : Int) := by omega
      have hkl : (k : Int) < (xs.length : Int) := by omega
      have hj0 : (0 : Int) ≤ (j : Int) := by omega
      have hjl : (j : Int) < (xs.length : Int) := by omega
      have hjk : (xs.length : Int) - 1 - (k : Int) = j := by omega
      have hr1 := HR.out k
      obtain ⟨hr11, hr12⟩ := hr1
      have hr2 := HR.out j
      obtain ⟨hr21, hr22⟩ := hr2
      have HL : Hid ((refTo xs true false k).length ≤ 1000000000) := Lib.hid (by rw [refTo_len]; omega)
      have HJ := Lib.hid hj
      clear hcell hc hcj hj
      go_wp2_with (at_builtin; refine append_int rfl _ _ rfl hcol rfl _ rfl HL.out ?_; intro v' w' hcol' hne)
      go_roundw
      case rel => exact ⟨k + 1, by omega, by go_num, by rw [refTo_succ]; unfold refE; rw [HJ.out]; exact hcol'⟩
      case measure => simp [intOf]; omega
    · have hkl : xs.length = k := by omega
      have HK := Lib.hid hkl
      clear hkl hcell
      generalize wr = W1 at *
      have hrd := hcol.reads
      rw [← HK.out, HST.out] at hrd
      have hb0 := hcol.below
      have hord := ord_stage HO.out 5 2
      have hlen := len_stage xs 5 2
      generalize hys : stage xs 5 2 = ys at hrd hord hlen
      have HYS := Lib.hid hys
      have HLEN := Lib.hid hlen
      obtain ⟨a2, cap2, rfl, _, _, hcell2⟩ := hrd.open
      have hnd : ys.Nodup := by simp only [ordB, decide_eq_true_eq] at hord; exact hord.2.2.2
      have HND := Lib.hid hnd
      have HS2 := Lib.hid (ordB_under hord)
      have HO2 := Lib.hid hord
      rw [hlen] at hcell2 ⊢
      clear hcol hrd hord hnd hys hlen
      go_wp2_with (refine wpList_make_row _ rfl _ _ 22 rfl 3 i0 (.int .i64 0) Try.underlying22 hi0 hz0 hz1 rfl .i64 .i64 xs.length rfl rfl (by rw [hz2]; omega) (by omega) ?_)
      have hrow := World.rowIs_made W1 (.int .i64 0) xs.length 3
      have hbw := (Below.refl W1.heap.size W1).alloc (Nat.le_refl _) (.cells (madeCells #[.int .i64 0] xs.length) 3)
      generalize hW0 : World.alloc W1 _ = W0 at hrow hbw ⊢
      clear hW0
      go_loopw [10] (fun i wq => ∃ q : Nat, q ≤ xs.length ∧ i = .int .i64 q ∧ wq.rowIs W1.heap.size 3 xs.length (fun j => .int .i64 (excAt ys q j)) ∧ Below W1.heap.size W1 wq) (fun i _ => xs.length - (intOf i).toNat)
      case atStart => exact ⟨0, by omega, rfl, hrow.congr (fun i hi => by simp [excAt]), hbw⟩
      case round =>
        obtain ⟨q, hq, rfl, hrw, hbq⟩ := hrel
        by_cases hlt : q < xs.length
        · obtain ⟨b, off, rfl, hb, hc⟩ := hcell2 q hlt
          have hc' : wr.cell? ⟨b, off + q, none⟩ = some (.int .i64 (gi ys q)) := (hbq.cell (p := ⟨b, off + q, none⟩) hb).trans hc
          have hk0 : (0 : Int) ≤ (q : Int) := by omega
          have hkl : (q : Int) < (xs.length : Int) := by omega
          have hs1 := HS2.out q
          rw [HLEN.out] at hs1
          obtain ⟨m, hm⟩ : ∃ m : Nat, gi ys q = m := ⟨(gi ys q).toNat, by omega⟩
          have hm2 : m < xs.length := by omega
          have hm3 : (m : Int) < (xs.length : Int) := by omega
          have hm0 : (0 : Int) ≤ (m : Int) := by omega
          rw [hm] at hc'
          have HM := Lib.hid hm
          have hst := hrw.cell hm2
          have hfr := hrw.frozen m
          clear hcell2 hc hm hs1
          go_wp2_with fail
          have hrel' : ∃ r : Nat, r ≤ xs.length ∧ Value.int .i64 ((q : Int) + 1) = .int .i64 r ∧ (wr.setCell ⟨W1.heap.size, m, none⟩ (.int .i64 (q : Int))).rowIs W1.heap.size 3 xs.length (fun j => .int .i64 (excAt ys r j)) ∧ Below W1.heap.size W1 (wr.setCell ⟨W1.heap.size, m, none⟩ (.int .i64 (q : Int))) := by
            refine ⟨q + 1, by omega, by go_num, (hrw.set m _).congr (fun j hj => ?_), hbq.setCell (Nat.le_refl _) _⟩
            have := excAt_succ HND.out (by rw [HLEN.out]; exact hlt) HM.out j
            by_cases e : j = m
            · rw [if_pos e] at this ⊢; rw [this]
            · rw [if_neg e] at this ⊢; rw [this]
          first
            | exact ⟨hrel', by simp [intOf]; omega⟩
            | (go_roundw
               case rel => exact hrel'
               case measure => simp [intOf]; omega)
        · have hkl : xs.length = q := by omega
          have HQ := Lib.hid hkl
          clear hkl hcell2
          go_wp2_with fail
          go_ret
          refine ⟨_, rfl, ?_, hb0.trans (hbq.mono hb0.size)⟩
          refine stage_yes_of (s := 5) (k := 2) ?_ (by decide)
          rw [HYS.out]
          show Reads wr _ (excL ys)
          have hex : (excL ys).length = xs.length := by rw [excL_len, HLEN.out]
          refine ⟨some ⟨W1.heap.size, 0, none⟩, xs.length, by rw [hex]; rfl, by rw [hex]; omega, by simp [maxLen]; omega, .inr ⟨W1.heap.size, 0, rfl, hrw.lt, fun j hj => ?_⟩⟩
          rw [hex] at hj
          rw [Nat.zero_add, hrw.cell hj]
          have hmem : (j : Int) ∈ ys := perm_mem HO2.out (by rw [HLEN.out]; exact hj)
          have htk : ys.take q = ys := List.take_of_length_le (by rw [HLEN.out, HQ.out]; omega)
          simp only [excAt, htk, if_pos hmem, Option.some.injEq, Value.int.injEq, true_and]
          rw [gi_exc (by rw [HLEN.out]; exact hj)]

set_option maxRecDepth 100000 in
set_option maxHeartbeats 1600000 in
theorem refTurn_6 (v : Value) (xs : List Int) (w : World) (hr : Reads w v xs) (ho : ordB xs = true) :
    Calls Try.prog 29 #[v, .int .i64 6] w fun e w' => ∃ v', e = .returned v' ∧ Reads w' v' (turnL xs 6) ∧ Below w.heap.size w w' := by
  obtain ⟨a, cap, rfl, h1, h2, hcell⟩ := hr.open
  obtain ⟨hl1, hl2⟩ := ordB_len ho
  have HR := Lib.hid (ordB_under ho)
  have HO := Lib.hid ho
  have hst : refTo xs false true xs.length = stage xs 6 2 := refTo_stage xs 6
  have HST := Lib.hid hst
  obtain ⟨i0, hi0, hz0, hz1, hz2⟩ := info_parts infoInt
  clear ho h2 h1 hr hst
  go_enter Try.func29, Try.ntmps29
  go_wp2_with fail
  go_loopw [6, 7] (fun v i wr => ∃ k : Nat, k ≤ xs.length ∧ i = .int .i64 k ∧ Col w wr v (refTo xs false true k)) (fun _ i _ => xs.length - (intOf i).toNat)
  case atStart => exact ⟨0, by omega, rfl, Col.nil _⟩
  case round =>
    obtain ⟨k, hk, rfl, hcol⟩ := hrel
    by_cases hlt : k < xs.length
    · obtain ⟨b, off, rfl, hb, hc⟩ := hcell k hlt
      obtain ⟨j, hj⟩ : ∃ j : Nat, xs.length - 1 - k = j := ⟨_, rfl⟩
      obtain ⟨_, _, he, _, hcj⟩ := hcell j (by omega)
      cases he
      have hc' : wr.cell? ⟨b, off + k, none⟩ = some (.int .i64 (gi xs k)) := (hcol.below.cell (p := ⟨b, off + k, none⟩) hb).trans hc
      have hcj' : wr.cell? ⟨b, off + j, none⟩ = some (.int .i64 (gi xs j)) := (hcol.below.cell (p := ⟨b, off + j, none⟩) hb).trans hcj
      have hk0 : (0 : Int) ≤ (k : Int) := by omega
      have hkl : (k : Int) < (xs.length : Int) := by omega
      have hj0 : (0 : Int) ≤ (j : Int) := by omega
      have hjl : (j : Int) < (xs.length : Int) := by omega
      have hjk : (xs.length : Int) - 1 - (k : Int) = j := by omega
      have hr1 := HR.out k
      obtain ⟨hr11, hr12⟩ := hr1
      have hr2 := HR.out j
      obtain ⟨hr21, hr22⟩ := hr2
      have HL : Hid ((refTo xs false true k).length ≤ 1000000000) := Lib.hid (by rw [refTo_len]; omega)
      have HJ := Lib.hid hj
      clear hcell hc hcj hj
      go_wp2_with (at_builtin; refine append_int rfl _ _ rfl hcol rfl _ rfl HL.out ?_; intro v' w' hcol' hne)
      go_roundw
      case rel => exact ⟨k + 1, by omega, by go_num, by rw [refTo_succ]; unfold refE; rw [HJ.out]; exact hcol'⟩
      case measure => simp [intOf]; omega
    · have hkl : xs.length = k := by omega
      have HK := Lib.hid hkl
      clear hkl hcell
      generalize wr = W1 at *
      have hrd := hcol.reads
      rw [← HK.out, HST.out] at hrd
      have hb0 := hcol.below
      have hord := ord_stage HO.out 6 2
      have hlen := len_stage xs 6 2
      generalize hys : stage xs 6 2 = ys at hrd hord hlen
      have HYS := Lib.hid hys
      have HLEN := Lib.hid hlen
      obtain ⟨a2, cap2, rfl, _, _, hcell2⟩ := hrd.open
      have hnd : ys.Nodup := by simp only [ordB, decide_eq_true_eq] at hord; exact hord.2.2.2
      have HND := Lib.hid hnd
      have HS2 := Lib.hid (ordB_under hord)
      have HO2 := Lib.hid hord
      rw [hlen] at hcell2 ⊢
      clear hcol hrd hord hnd hys hlen
      go_wp2_with (refine wpList_make_row _ rfl _ _ 22 rfl 3 i0 (.int .i64 0) Try.underlying22 hi0 hz0 hz1 rfl .i64 .i64 xs.length rfl rfl (by rw [hz2]; omega) (by omega) ?_)
      have hrow := World.rowIs_made W1 (.int .i64 0) xs.length 3
      have hbw := (Below.refl W1.heap.size W1).alloc (Nat.le_refl _) (.cells (madeCells #[.int .i64 0] xs.length) 3)
      generalize hW0 : World.alloc W1 _ = W0 at hrow hbw ⊢
      clear hW0
      go_loopw [10] (fun i wq => ∃ q : Nat, q ≤ xs.length ∧ i = .int .i64 q ∧ wq.rowIs W1.heap.size 3 xs.length (fun j => .int .i64 (excAt ys q j)) ∧ Below W1.heap.size W1 wq) (fun i _ => xs.length - (intOf i).toNat)
      case atStart => exact ⟨0, by omega, rfl, hrow.congr (fun i hi => by simp [excAt]), hbw⟩
      case round =>
        obtain ⟨q, hq, rfl, hrw, hbq⟩ := hrel
        by_cases hlt : q < xs.length
        · obtain ⟨b, off, rfl, hb, hc⟩ := hcell2 q hlt
          have hc' : wr.cell? ⟨b, off + q, none⟩ = some (.int .i64 (gi ys q)) := (hbq.cell (p := ⟨b, off + q, none⟩) hb).trans hc
          have hk0 : (0 : Int) ≤ (q : Int) := by omega
          have hkl : (q : Int) < (xs.length : Int) := by omega
          have hs1 := HS2.out q
          rw [HLEN.out] at hs1
          obtain ⟨m, hm⟩ : ∃ m : Nat, gi ys q = m := ⟨(gi ys q).toNat, by omega⟩
          have hm2 : m < xs.length := by omega
          have hm3 : (m : Int) < (xs.length : Int) := by omega
          have hm0 : (0 : Int) ≤ (m : Int) := by omega
          rw [hm] at hc'
          have HM := Lib.hid hm
          have hst := hrw.cell hm2
          have hfr := hrw.frozen m
          clear hcell2 hc hm hs1
          go_wp2_with fail
          have hrel' : ∃ r : Nat, r ≤ xs.length ∧ Value.int .i64 ((q : Int) + 1) = .int .i64 r ∧ (wr.setCell ⟨W1.heap.size, m, none⟩ (.int .i64 (q : Int))).rowIs W1.heap.size 3 xs.length (fun j => .int .i64 (excAt ys r j)) ∧ Below W1.heap.size W1 (wr.setCell ⟨W1.heap.size, m, none⟩ (.int .i64 (q : Int))) := by
            refine ⟨q + 1, by omega, by go_num, (hrw.set m _).congr (fun j hj => ?_), hbq.setCell (Nat.le_refl _) _⟩
            have := excAt_succ HND.out (by rw [HLEN.out]; exact hlt) HM.out j
            by_cases e : j = m
            · rw [if_pos e] at this ⊢; rw [this]
            · rw [if_neg e] at this ⊢; rw [this]
          first
            | exact ⟨hrel', by simp [intOf]; omega⟩
            | (go_roundw
               case rel => exact hrel'
               case measure => simp [intOf]; omega)
        · have hkl : xs.length = q := by omega
          have HQ := Lib.hid hkl
          clear hkl hcell2
          go_wp2_with fail
          go_ret
          refine ⟨_, rfl, ?_, hb0.trans (hbq.mono hb0.size)⟩
          refine stage_yes_of (s := 6) (k := 2) ?_ (by decide)
          rw [HYS.out]
          show Reads wr _ (excL ys)
          have hex : (excL ys).length = xs.length := by rw [excL_len, HLEN.out]
          refine ⟨some ⟨W1.heap.size, 0, none⟩, xs.length, by rw [hex]; rfl, by rw [hex]; omega, by simp [maxLen]; omega, .inr ⟨W1.heap.size, 0, rfl, hrw.lt, fun j hj => ?_⟩⟩
          rw [hex] at hj
          rw [Nat.zero_add, hrw.cell hj]
          have hmem : (j : Int) ∈ ys := perm_mem HO2.out (by rw [HLEN.out]; exact hj)
          have htk : ys.take q = ys := List.take_of_length_le (by rw [HLEN.out, HQ.out]; omega)
          simp only [excAt, htk, if_pos hmem, Option.some.injEq, Value.int.injEq, true_and]
          rw [gi_exc (by rw [HLEN.out]; exact hj)]

set_option maxRecDepth 100000 in
set_option maxHeartbeats 1600000 in
theorem refTurn_7 (v : Value) (xs : List Int) (w : World) (hr : Reads w v xs) (ho : ordB xs = true) :
    Calls Try.prog 29 #[v, .int .i64 7] w fun e w' => ∃ v', e = .returned v' ∧ Reads w' v' (turnL xs 7) ∧ Below w.heap.size w w' := by
  obtain ⟨a, cap, rfl, h1, h2, hcell⟩ := hr.open
  obtain ⟨hl1, hl2⟩ := ordB_len ho
  have HR := Lib.hid (ordB_under ho)
  have HO := Lib.hid ho
  have hst : refTo xs true true xs.length = stage xs 7 2 := refTo_stage xs 7
  have HST := Lib.hid hst
  obtain ⟨i0, hi0, hz0, hz1, hz2⟩ := info_parts infoInt
  clear ho h2 h1 hr hst
  go_enter Try.func29, Try.ntmps29
  go_wp2_with fail
  go_loopw [6, 7] (fun v i wr => ∃ k : Nat, k ≤ xs.length ∧ i = .int .i64 k ∧ Col w wr v (refTo xs true true k)) (fun _ i _ => xs.length - (intOf i).toNat)
  case atStart => exact ⟨0, by omega, rfl, Col.nil _⟩
  case round =>
    obtain ⟨k, hk, rfl, hcol⟩ := hrel
    by_cases hlt : k < xs.length
    · obtain ⟨b, off, rfl, hb, hc⟩ := hcell k hlt
      obtain ⟨j, hj⟩ : ∃ j : Nat, xs.length - 1 - k = j := ⟨_, rfl⟩
      obtain ⟨_, _, he, _, hcj⟩ := hcell j (by omega)
      cases he
      have hc' : wr.cell? ⟨b, off + k, none⟩ = some (.int .i64 (gi xs k)) := (hcol.below.cell (p := ⟨b, off + k, none⟩) hb).trans hc
      have hcj' : wr.cell? ⟨b, off + j, none⟩ = some (.int .i64 (gi xs j)) := (hcol.below.cell (p := ⟨b, off + j, none⟩) hb).trans hcj
      have hk0 : (0 : Int) ≤ (k : Int) := by omega
      have hkl : (k : Int) < (xs.length : Int) := by omega
      have hj0 : (0 : Int) ≤ (j : Int) := by omega
      have hjl : (j : Int) < (xs.length : Int) := by omega
      have hjk : (xs.length : Int) - 1 - (k : Int) = j := by omega
      have hr1 := HR.out k
      obtain ⟨hr11, hr12⟩ := hr1
      have hr2 := HR.out j
      obtain ⟨hr21, hr22⟩ := hr2
      have HL : Hid ((refTo xs true true k).length ≤ 1000000000) := Lib.hid (by rw [refTo_len]; omega)
      have HJ := Lib.hid hj
      clear hcell hc hcj hj
      go_wp2_with (at_builtin; refine append_int rfl _ _ rfl hcol rfl _ rfl HL.out ?_; intro v' w' hcol' hne)
      go_roundw
      case rel => exact ⟨k + 1, by omega, by go_num, by rw [refTo_succ]; unfold refE; rw [HJ.out]; exact hcol'⟩
      case measure => simp [intOf]; omega
    · have hkl : xs.length = k := by omega
      have HK := Lib.hid hkl
      clear hkl hcell
      generalize wr = W1 at *
      have hrd := hcol.reads
      rw [← HK.out, HST.out] at hrd
      have hb0 := hcol.below
      have hord := ord_stage HO.out 7 2
      have hlen := len_stage xs 7 2
      generalize hys : stage xs 7 2 = ys at hrd hord hlen
      have HYS := Lib.hid hys
      have HLEN := Lib.hid hlen
      obtain ⟨a2, cap2, rfl, _, _, hcell2⟩ := hrd.open
      have hnd : ys.Nodup := by simp only [ordB, decide_eq_true_eq] at hord; exact hord.2.2.2
      have HND := Lib.hid hnd
      have HS2 := Lib.hid (ordB_under hord)
      have HO2 := Lib.hid hord
      rw [hlen] at hcell2 ⊢
      clear hcol hrd hord hnd hys hlen
      go_wp2_with (refine wpList_make_row _ rfl _ _ 22 rfl 3 i0 (.int .i64 0) Try.underlying22 hi0 hz0 hz1 rfl .i64 .i64 xs.length rfl rfl (by rw [hz2]; omega) (by omega) ?_)
      have hrow := World.rowIs_made W1 (.int .i64 0) xs.length 3
      have hbw := (Below.refl W1.heap.size W1).alloc (Nat.le_refl _) (.cells (madeCells #[.int .i64 0] xs.length) 3)
      generalize hW0 : World.alloc W1 _ = W0 at hrow hbw ⊢
      clear hW0
      go_loopw [10] (fun i wq => ∃ q : Nat, q ≤ xs.length ∧ i = .int .i64 q ∧ wq.rowIs W1.heap.size 3 xs.length (fun j => .int .i64 (excAt ys q j)) ∧ Below W1.heap.size W1 wq) (fun i _ => xs.length - (intOf i).toNat)
      case atStart => exact ⟨0, by omega, rfl, hrow.congr (fun i hi => by simp [excAt]), hbw⟩
      case round =>
        obtain ⟨q, hq, rfl, hrw, hbq⟩ := hrel
        by_cases hlt : q < xs.length
        · obtain ⟨b, off, rfl, hb, hc⟩ := hcell2 q hlt
          have hc' : wr.cell? ⟨b, off + q, none⟩ = some (.int .i64 (gi ys q)) := (hbq.cell (p := ⟨b, off + q, none⟩) hb).trans hc
          have hk0 : (0 : Int) ≤ (q : Int) := by omega
          have hkl : (q : Int) < (xs.length : Int) := by omega
          have hs1 := HS2.out q
          rw [HLEN.out] at hs1
          obtain ⟨m, hm⟩ : ∃ m : Nat, gi ys q = m := ⟨(gi ys q).toNat, by omega⟩
          have hm2 : m < xs.length := by omega
          have hm3 : (m : Int) < (xs.length : Int) := by omega
          have hm0 : (0 : Int) ≤ (m : Int) := by omega
          rw [hm] at hc'
          have HM := Lib.hid hm
          have hst := hrw.cell hm2
          have hfr := hrw.frozen m
          clear hcell2 hc hm hs1
          go_wp2_with fail
          have hrel' : ∃ r : Nat, r ≤ xs.length ∧ Value.int .i64 ((q : Int) + 1) = .int .i64 r ∧ (wr.setCell ⟨W1.heap.size, m, none⟩ (.int .i64 (q : Int))).rowIs W1.heap.size 3 xs.length (fun j => .int .i64 (excAt ys r j)) ∧ Below W1.heap.size W1 (wr.setCell ⟨W1.heap.size, m, none⟩ (.int .i64 (q : Int))) := by
            refine ⟨q + 1, by omega, by go_num, (hrw.set m _).congr (fun j hj => ?_), hbq.setCell (Nat.le_refl _) _⟩
            have := excAt_succ HND.out (by rw [HLEN.out]; exact hlt) HM.out j
            by_cases e : j = m
            · rw [if_pos e] at this ⊢; rw [this]
            · rw [if_neg e] at this ⊢; rw [this]
          first
            | exact ⟨hrel', by simp [intOf]; omega⟩
            | (go_roundw
               case rel => exact hrel'
               case measure => simp [intOf]; omega)
        · have hkl : xs.length = q := by omega
          have HQ := Lib.hid hkl
          clear hkl hcell2
          go_wp2_with fail
          go_ret
          refine ⟨_, rfl, ?_, hb0.trans (hbq.mono hb0.size)⟩
          refine stage_yes_of (s := 7) (k := 2) ?_ (by decide)
          rw [HYS.out]
          show Reads wr _ (excL ys)
          have hex : (excL ys).length = xs.length := by rw [excL_len, HLEN.out]
          refine ⟨some ⟨W1.heap.size, 0, none⟩, xs.length, by rw [hex]; rfl, by rw [hex]; omega, by simp [maxLen]; omega, .inr ⟨W1.heap.size, 0, rfl, hrw.lt, fun j hj => ?_⟩⟩
          rw [hex] at hj
          rw [Nat.zero_add, hrw.cell hj]
          have hmem : (j : Int) ∈ ys := perm_mem HO2.out (by rw [HLEN.out]; exact hj)
          have htk : ys.take q = ys := List.take_of_length_le (by rw [HLEN.out, HQ.out]; omega)
          simp only [excAt, htk, if_pos hmem, Option.some.injEq, Value.int.injEq, true_and]
          rw [gi_exc (by rw [HLEN.out]; exact hj)]

theorem refTurn_any (v : Value) (xs : List Int) (s : Nat) (w : World) (hr : Reads w v xs) (ho : ordB xs = true) (hs : s ≤ 7) :
    Calls Try.prog 29 #[v, .int .i64 s] w fun e w' => ∃ v', e = .returned v' ∧ Reads w' v' (turnL xs s) ∧ Below w.heap.size w w' := by
  have hs8 : s = 0 ∨ s = 1 ∨ s = 2 ∨ s = 3 ∨ s = 4 ∨ s = 5 ∨ s = 6 ∨ s = 7 := by omega
  rcases hs8 with rfl | rfl | rfl | rfl | rfl | rfl | rfl | rfl
  · exact refTurn_0 v xs w hr ho
  · exact refTurn_1 v xs w hr ho
  · exact refTurn_2 v xs w hr ho
  · exact refTurn_3 v xs w hr ho
  · exact refTurn_4 v xs w hr ho
  · exact refTurn_5 v xs w hr ho
  · exact refTurn_6 v xs w hr ho
  · exact refTurn_7 v xs w hr ho
end Go.Proofs.Ytlgonmnbedddaaa
