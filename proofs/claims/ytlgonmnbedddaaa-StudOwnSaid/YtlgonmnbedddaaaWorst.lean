/- Worst, and the reference's Worst. -/
import Derived.Test.YtlgonmnbedddaaaRMeet
import Derived.Test.YtlgonmnbedddaaaRClear
set_option linter.unusedVariables false
set_option linter.unusedSimpArgs false
namespace Go.Proofs.Ytlgonmnbedddaaa
open Go.RowKit Go.Shelf

/-- the shifts in the order of the search: u from 1 on, v from -n to n; as far as v = -n + j -/
def stepW (xs : List Int) (b : Int × Int × Int) (u v : Int) : Int × Int × Int := if b.1 < (meetN xs u v xs.length : Int) then ((meetN xs u v xs.length : Int), u, v) else b
def rowW (xs : List Int) (u : Int) (b : Int × Int × Int) (j : Nat) : Int × Int × Int := (List.range j).foldl (fun b (j : Nat) => stepW xs b u ((j : Int) - xs.length)) b
def worstTo (xs : List Int) (m : Nat) : Int × Int × Int := (List.range m).foldl (fun b (u : Nat) => rowW xs ((u : Int) + 1) b (2 * xs.length + 1)) (0, 0, 0)
def worstL (xs : List Int) : Int × Int × Int := worstTo xs (xs.length - 1)
theorem rowW_succ (xs : List Int) (u : Int) (b : Int × Int × Int) (j : Nat) : rowW xs u b (j + 1) = stepW xs (rowW xs u b j) u ((j : Int) - xs.length) := by simp [rowW, List.range_succ]
theorem worstTo_succ (xs : List Int) (m : Nat) : worstTo xs (m + 1) = rowW xs ((m : Int) + 1) (worstTo xs m) (2 * xs.length + 1) := by simp [worstTo, List.range_succ]
theorem stepW_yes {xs : List Int} {b : Int × Int × Int} {u v : Int} (h : b.1 < (meetN xs u v xs.length : Int)) : stepW xs b u v = ((meetN xs u v xs.length : Int), u, v) := if_pos h
theorem stepW_no {xs : List Int} {b : Int × Int × Int} {u v : Int} (h : ¬ b.1 < (meetN xs u v xs.length : Int)) : stepW xs b u v = b := if_neg h

def two (a b : Int) : Array Value := #[.int .i64 a, .int .i64 b]
def zero2 : Array Value := #[.int .i64 0, .int .i64 0]
/-- the two cells of Worst's variables -/
def WB (w : World) (k : Nat) (b : Int × Int × Int) (W : World) : Prop := W.heap[w.heap.size]? = some (.cells zero2 37) ∧ W.heap[k]? = some (.cells (two b.2.1 b.2.2) 37) ∧ Below w.heap.size w W

theorem WB.drewN {w : World} {k : Nat} {b : Int × Int × Int} {W : World} (h : WB w k b W) (m : Nat) : WB w k b (W.drewN m) :=
  ⟨((below_drewN W m).block _ (heap_lt h.1)).trans h.1, ((below_drewN W m).block _ (heap_lt h.2.1)).trans h.2.1, h.2.2.trans ((below_drewN W m).mono h.2.2.size)⟩
def worstS (xs : List Int) : Value := if ordB xs then .tuple #[.int .i64 (worstL xs).1, .agg (two (worstL xs).2.1 (worstL xs).2.2), .int .i64 0] else .tuple #[.int .i64 0, .agg zero2, .int .i64 2]

theorem worst_ex {xs : List Int} (ho : ordB xs = true) : ∃ a b c : Int, worstS xs = .tuple #[.int .i64 a, .agg #[.int .i64 b, .int .i64 c], .int .i64 0] ∧ worstL xs = (a, b, c) := by
  unfold worstS; rw [ho]
  obtain ⟨a, b, c⟩ := worstL xs
  exact ⟨a, b, c, rfl, rfl⟩

theorem results_tct {P : Program} {fn : Func} {p1 p2 p3 : Tmp} {t2 : TypeId} (h : fn.results = #[.tmp p1, .cell p2 t2, .tmp p3]) {tmps : Array Value} {w : World} {g : Nat} {v1 v2 v3 : Value}
    (h1 : tmps.getD p1 undef = v1) (h2 : tmps.getD p2 undef = .pointer (some ⟨g, 0, none⟩)) (h3 : tmps.getD p3 undef = v3)
    (l2 : (loadVar t2 ⟨g, 0, none⟩).run P w = .ok v2 w) : (results fn tmps).run P w = .ok (.tuple #[v1, v2, v3]) w := by
  have h1' : tmps[p1]?.getD undef = v1 := by simpa using h1
  have h2' : tmps[p2]?.getD undef = .pointer (some ⟨g, 0, none⟩) := by simpa using h2
  have h3' : tmps[p3]?.getD undef = v3 := by simpa using h3
  simp [results, h, h1', h2', h3', asAddr, l2]
theorem results_tc {P : Program} {fn : Func} {p1 p2 : Tmp} {t2 : TypeId} (h : fn.results = #[.tmp p1, .cell p2 t2]) {tmps : Array Value} {w : World} {g : Nat} {v1 v2 : Value}
    (h1 : tmps.getD p1 undef = v1) (h2 : tmps.getD p2 undef = .pointer (some ⟨g, 0, none⟩))
    (l2 : (loadVar t2 ⟨g, 0, none⟩).run P w = .ok v2 w) : (results fn tmps).run P w = .ok (.tuple #[v1, v2]) w := by
  have h1' : tmps[p1]?.getD undef = v1 := by simpa using h1
  have h2' : tmps[p2]?.getD undef = .pointer (some ⟨g, 0, none⟩) := by simpa using h2
  simp [results, h, h1', h2', asAddr, l2]

set_option maxRecDepth 100000 in
set_option maxHeartbeats 3200000 in
theorem Worst_ok (sl : Value) (xs : List Int) (w : World) (hr : Reads w sl xs) (ho : ordB xs = true) :
    Calls Try.prog 11 #[sl] w fun e w' => e = .returned (worstS xs) ∧ Below w.heap.size w w' := by
  have hws : worstS xs = .tuple #[.int .i64 (worstL xs).1, .agg (two (worstL xs).2.1 (worstL xs).2.2), .int .i64 0] := by unfold worstS; rw [ho]; rfl
  have HWS := Lib.hid hws
  obtain ⟨hl1, hl2⟩ := ordB_len ho
  have HO := Lib.hid ho
  have hr0 := hr
  obtain ⟨a, cap, rfl, _, _, _⟩ := hr.open
  clear hws ho hr
  go_enter Try.func11, Try.ntmps11
  go_wp2_with fail
  have hrA := hr0.below ((Below.refl _ w).alloc (Nat.le_refl _) (.cells #[.int .i64 0, .int .i64 0] 37))
  refine (isOrder_any _ _ _ hrA).mono ?_
  rintro e w' ⟨rfl, rfl⟩
  rw [HO.out]
  go_wp2_with fail
  have hB0 : WB w (w.heap.size + 1) (0, 0, 0) ((w.alloc (.cells #[.int .i64 0, .int .i64 0] 37)).alloc (.cells #[.int .i64 0, .int .i64 0] 37)) :=
    ⟨alloc_old (heap_alloc_new _ _), heap_alloc_at _ _ _ (by simp), ((Below.refl _ _).alloc (Nat.le_refl _) _).alloc (by simp) _⟩
  generalize hW0 : World.alloc (World.alloc w _) _ = W0 at hB0 ⊢
  clear hW0 hrA
  go_loopw [5, 7, 8, 9] (fun most u _ _ wr => ∃ (m : Nat) (b : Int × Int × Int), m + 1 ≤ xs.length ∧ u = .int .i64 ((m + 1 : Nat) : Int) ∧ most = .int .i64 b.1 ∧ worstTo xs m = b ∧ WB w (w.heap.size + 1) b wr) (fun _ u _ _ _ => xs.length - (intOf u).toNat)
  case atStart => exact ⟨0, (0, 0, 0), by omega, by go_num, rfl, rfl, hB0⟩
  case round =>
    obtain ⟨m, ⟨b1, b2, b3⟩, hm, rfl, rfl, hw, hB⟩ := hrel
    obtain ⟨u, hu⟩ : ∃ u, m + 1 = u := ⟨_, rfl⟩
    rw [hu] at hm ⊢
    have HU := Lib.hid hu
    have HW := Lib.hid hw
    have hu1 : 1 ≤ u := by omega
    clear hu hw hB0
    by_cases hlt : u < xs.length
    · go_wp2_with fail
      obtain ⟨wo, rfl⟩ : ∃ wo : World, wo = wr := ⟨_, rfl⟩
      go_loopw [5, 8, 9] (fun most v _ wr => ∃ (x : Int) (b : Int × Int × Int), -(xs.length : Int) ≤ x ∧ x ≤ (xs.length : Int) + 1 ∧ v = .int .i64 x ∧ most = .int .i64 b.1 ∧ rowW xs (u : Int) (b1, b2, b3) (x + xs.length).toNat = b ∧ WB w (w.heap.size + 1) b wr) (fun _ v _ _ => ((xs.length : Int) + 1 - intOf v).toNat)
      case atStart => exact ⟨-(xs.length : Int), (b1, b2, b3), by omega, by omega, rfl, rfl, by rw [show (-(xs.length : Int) + xs.length).toNat = 0 by omega]; rfl, hB⟩
      case round =>
        obtain ⟨x, ⟨c1, c2, c3⟩, hx1, hx2, rfl, rfl, hrw, hB2⟩ := hrel
        have HRW := Lib.hid hrw
        clear hrw hB
        by_cases hxn : x ≤ (xs.length : Int)
        · have hsucc := rowW_succ xs (u : Int) (b1, b2, b3) (x + xs.length).toNat
          rw [HRW.out, show (((x + xs.length).toNat : Nat) : Int) - xs.length = x by omega, show (x + xs.length).toNat + 1 = (x + 1 + xs.length).toNat by omega] at hsucc
          have HSUCC := Lib.hid hsucc
          have hmle := meetN_le xs (u : Int) x xs.length
          have hrd := hr0.below hB2.2.2
          clear hsucc
          obtain ⟨q, hq⟩ : ∃ q, meetN xs (u : Int) x xs.length = q := ⟨_, rfl⟩
          have HQ := Lib.hid hq
          rw [hq] at hmle
          clear hq
          by_cases hc : c1 < (q : Int)
          · have hstep := stepW_yes (xs := xs) (b := (c1, c2, c3)) (u := (u : Int)) (v := x) (by rw [HQ.out]; exact hc)
            rw [HQ.out] at hstep
            have HSTEP := Lib.hid hstep
            have HZ := Lib.hid hB2.2.1
            clear hstep
            go_wp2_with fail
            refine (meeting_any _ xs _ _ _ hrd HO.out (by omega)).mono ?_
            rintro e w' ⟨rfl, rfl⟩
            rw [HQ.out]
            go_wp2_with (refine store_row rfl 37 (.tmp 6) (.tmp 39) rfl (w.heap.size + 1) (two (u : Int) x) rfl rfl 37 (two c2 c3) HZ.out (by kernel_rfl) rfl (by simp [two, Value.oneCell']) ?_)
            go_roundw
            case rel => exact ⟨x + 1, ((q : Int), (u : Int), x), by omega, by omega, by go_num, rfl, by rw [HSUCC.out, HSTEP.out], setRow_old hB2.1 (by omega), setRow_same HZ.out, below_setRow hB2.2.2 (by omega) _⟩
            case measure => simp [intOf]; omega
          · have hstep := stepW_no (xs := xs) (b := (c1, c2, c3)) (u := (u : Int)) (v := x) (by rw [HQ.out]; exact hc)
            have HSTEP := Lib.hid hstep
            clear hstep
            go_wp2_with fail
            refine (meeting_any _ xs _ _ _ hrd HO.out (by omega)).mono ?_
            rintro e w' ⟨rfl, rfl⟩
            rw [HQ.out]
            go_wp2_with fail
            go_roundw
            case rel => exact ⟨x + 1, (c1, c2, c3), by omega, by omega, by go_num, rfl, by rw [HSUCC.out, HSTEP.out], hB2⟩
            case measure => simp [intOf]; omega
        · have hxe : x = (xs.length : Int) + 1 := by omega
          have HX := Lib.hid hxe
          clear hxe
          go_wp2_with fail
          go_roundw
          case rel => exact ⟨m + 1, (c1, c2, c3), by have := HU.out; omega, by have := HU.out; rw [HU.out]; go_num, rfl, by
            rw [worstTo_succ, HW.out, show ((m : Int) + 1) = (u : Int) by have := HU.out; omega, show 2 * xs.length + 1 = (x + xs.length).toNat by have := HX.out; omega]; exact HRW.out, hB2⟩
          case measure => simp [intOf]; omega
    · have hmn : m = xs.length - 1 := by have := HU.out; omega
      have HWL : Hid (worstL xs = (b1, b2, b3)) := Lib.hid (by unfold worstL; rw [← hmn]; exact HW.out)
      obtain ⟨hB1, hB2, hB3⟩ := hB
      have f0 := free_of hB1 0
      have f1 := free_of hB1 1
      have z0 := cell_of hB1 (j := 0) (v := .int .i64 0) rfl
      have z1 := cell_of hB1 (j := 1) (v := .int .i64 0) rfl
      have y0 := cell_of hB2 (j := 0) (v := .int .i64 b2) rfl
      have y1 := cell_of hB2 (j := 1) (v := .int .i64 b3) rfl
      clear hmn
      go_wp2_with fail
      go_region
      have hrow : ((wr.setCell ⟨w.heap.size, 0, none⟩ (.int .i64 b2)).setCell ⟨w.heap.size, 1, none⟩ (.int .i64 b3)).drew.heap[w.heap.size]? = some (.cells (two b2 b3) 37) := heap_setCell_same _ _ _ _ _ _ (heap_setCell_same _ _ _ _ _ _ hB1)
      have hbel : Below w.heap.size w ((wr.setCell ⟨w.heap.size, 0, none⟩ (.int .i64 b2)).setCell ⟨w.heap.size, 1, none⟩ (.int .i64 b3)).drew := ((hB3.setCell (p := ⟨w.heap.size, 0, none⟩) (Nat.le_refl _) _).setCell (p := ⟨w.heap.size, 1, none⟩) (Nat.le_refl _) _).drew
      generalize World.drew _ = W9 at hrow hbel ⊢
      go_wp2_with fail
      refine bodyPost_ret (v := .tuple #[.int .i64 b1, .agg (two b2 b3), .int .i64 0]) (results_tct (g := w.heap.size) rfl rfl rfl rfl (run_loadVar_row _ _ _ _ _ _ (.array 2 3) hrow Try.underlying37 rfl (by kernel_rfl))) rfl ⟨?_, hbel⟩
      rw [HWS.out, HWL.out]
theorem Worst_err (sl : Value) (xs : List Int) (w : World) (hr : Reads w sl xs) (ho : ordB xs = false) :
    Calls Try.prog 11 #[sl] w fun e w' => e = .returned (worstS xs) ∧ Below w.heap.size w w' := by
  have hws : worstS xs = .tuple #[.int .i64 0, .agg #[.int .i64 0, .int .i64 0], .int .i64 2] := by unfold worstS; rw [ho]; rfl
  have HWS := Lib.hid hws
  have HO := Lib.hid ho
  have hrA := hr.below ((Below.refl _ w).alloc (Nat.le_refl _) (.cells #[.int .i64 0, .int .i64 0] 37))
  clear hws ho hr
  go_enter Try.func11, Try.ntmps11
  go_wp2_with (go_at_call 16; refine (isOrder_any _ _ _ hrA).mono ?_; rintro e w' ⟨rfl, rfl⟩; rw [HO.out])
  refine bodyPost_ret (v := .tuple #[.int .i64 0, .agg #[.int .i64 0, .int .i64 0], .int .i64 2]) (by simp [results, Try.results11, go_sem]) rfl ⟨by rw [HWS.out], (Below.refl _ _).alloc (Nat.le_refl _) _⟩
theorem Worst_any (sl : Value) (xs : List Int) (w : World) (hr : Reads w sl xs) :
    Calls Try.prog 11 #[sl] w fun e w' => e = .returned (worstS xs) ∧ Below w.heap.size w w' := by
  rcases h : ordB xs with _ | _
  · exact Worst_err sl xs w hr h
  · exact Worst_ok sl xs w hr h
end Go.Proofs.Ytlgonmnbedddaaa
