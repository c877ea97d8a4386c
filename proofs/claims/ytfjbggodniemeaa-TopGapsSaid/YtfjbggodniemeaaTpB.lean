/- tread: isSet, at the two sets that the statement uses. -/
import Derived.Test.YtfjbggodniemeaaTpA
set_option linter.unusedVariables false
set_option linter.unusedSimpArgs false
namespace Go.Proofs.Ytfjbggodniemeaa
open Go.RowKit

def ss1 : List (List UInt8) := [[97, 97, 97], [98, 98]]
def ss2 : List (List UInt8) := [[97, 97], [97, 98], [98, 98]]
set_option maxRecDepth 100000 in
set_option maxHeartbeats 1600000 in
theorem isSet1_any (v : Value) (w : World) (hr : ReadsT w v ss1) :
    Calls Try.prog 12 #[.int .i64 2, v] w fun e w' => e = .returned (.bool true) ∧ Below w.heap.size w w' := by
  obtain ⟨c, cap, rfl, hlt, hcell⟩ := hr
  have x0 := hcell 0 (by decide)
  have x1 := hcell 1 (by decide)
  have hw : withinB 2 1 3 = true := by decide
  have hl0 : withinB 3 1 5 = true := by decide
  have hd0 : wordB [97, 97, 97] = true := by decide +kernel
  have hl1 : withinB 2 1 5 = true := by decide
  have hd1 : wordB [98, 98] = true := by decide +kernel
  have hge1 : ∀ w, (binOp .geq 9 (sv [97, 97, 97]) (sv [98, 98])).run Try.prog w = .ok (.bool false) w := fun w => by kernel_rfl
  clear hcell
  simp only [ss1, List.length_cons, List.length_nil, Nat.zero_add, Nat.reduceAdd, List.getD_cons_zero, List.getD_cons_succ] at x0 x1 ⊢
  go_enter Try.func12, Try.ntmps12
  go_wp2_with fail
  refine (withinT_any _ _ _ _).mono ?_
  rintro e w' ⟨rfl, rfl⟩
  rw [hw]
  go_wp2_with fail
  go_loopw [17] (fun i wr => ∃ k : Nat, k ≤ 2 ∧ i = .int .i64 k ∧ Below w.heap.size w wr) (fun i _ => 2 - (intOf i).toNat)
  case atStart => exact ⟨0, by omega, rfl, Below.refl _ _⟩
  case round =>
    obtain ⟨k, hk, rfl, hb⟩ := hrel
    have y0 := (hb.cell (p := ⟨c, 0, none⟩) hlt).trans x0
    have y1 := (hb.cell (p := ⟨c, 1, none⟩) hlt).trans x1
    have HB := Lib.hid hb
    clear hb
    have hk3 : k = 0 ∨ k = 1 ∨ k = 2 := by omega
    rcases hk3 with rfl | rfl | rfl
    · go_wp2_with fail
      refine (withinT_any _ _ _ _).mono ?_
      rintro e w' ⟨rfl, rfl⟩
      rw [hl0]
      go_wp2_with fail
      refine (isWord_any _ _).mono ?_
      rintro e w2 ⟨rfl, hb2⟩
      rw [hd0]
      have HB2 := Lib.hid (bto HB.out hb2)
      clear hb2 y0 y1
      go_wp2_with fail
      go_roundw
      case rel => exact ⟨1, by omega, by go_num, HB2.out⟩
      case measure => simp [intOf]
    · go_wp2_with fail
      refine (withinT_any _ _ _ _).mono ?_
      rintro e w' ⟨rfl, rfl⟩
      rw [hl1]
      go_wp2_with fail
      refine (isWord_any _ _).mono ?_
      rintro e w2 ⟨rfl, hb2⟩
      rw [hd1]
      have HB2 := Lib.hid (bto HB.out hb2)
      have z0 := (hb2.cell (p := ⟨c, 0, none⟩) (Nat.lt_of_lt_of_le hlt HB.out.size)).trans y0
      clear hb2 y0 y1
      go_wp2_with fail
      go_roundw
      case rel => exact ⟨2, by omega, by go_num, HB2.out⟩
      case measure => simp [intOf]
    · have hnlt : ¬ (2 : Int) < 2 := by omega
      go_wp2_with fail
      go_ret
      exact ⟨rfl, HB.out⟩
set_option maxRecDepth 100000 in
set_option maxHeartbeats 1600000 in
theorem isSet2_any (v : Value) (w : World) (hr : ReadsT w v ss2) :
    Calls Try.prog 12 #[.int .i64 2, v] w fun e w' => e = .returned (.bool true) ∧ Below w.heap.size w w' := by
  obtain ⟨c, cap, rfl, hlt, hcell⟩ := hr
  have x0 := hcell 0 (by decide)
  have x1 := hcell 1 (by decide)
  have x2 := hcell 2 (by decide)
  have hw : withinB 2 1 3 = true := by decide
  have hl0 : withinB 2 1 5 = true := by decide
  have hd0 : wordB [97, 97] = true := by decide +kernel
  have hl1 : withinB 2 1 5 = true := by decide
  have hd1 : wordB [97, 98] = true := by decide +kernel
  have hge1 : ∀ w, (binOp .geq 9 (sv [97, 97]) (sv [97, 98])).run Try.prog w = .ok (.bool false) w := fun w => by kernel_rfl
  have hl2 : withinB 2 1 5 = true := by decide
  have hd2 : wordB [98, 98] = true := by decide +kernel
  have hge2 : ∀ w, (binOp .geq 9 (sv [97, 98]) (sv [98, 98])).run Try.prog w = .ok (.bool false) w := fun w => by kernel_rfl
  clear hcell
  simp only [ss2, List.length_cons, List.length_nil, Nat.zero_add, Nat.reduceAdd, List.getD_cons_zero, List.getD_cons_succ] at x0 x1 x2 ⊢
  go_enter Try.func12, Try.ntmps12
  go_wp2_with fail
  refine (withinT_any _ _ _ _).mono ?_
  rintro e w' ⟨rfl, rfl⟩
  rw [hw]
  go_wp2_with fail
  go_loopw [17] (fun i wr => ∃ k : Nat, k ≤ 3 ∧ i = .int .i64 k ∧ Below w.heap.size w wr) (fun i _ => 3 - (intOf i).toNat)
  case atStart => exact ⟨0, by omega, rfl, Below.refl _ _⟩
  case round =>
    obtain ⟨k, hk, rfl, hb⟩ := hrel
    have y0 := (hb.cell (p := ⟨c, 0, none⟩) hlt).trans x0
    have y1 := (hb.cell (p := ⟨c, 1, none⟩) hlt).trans x1
    have y2 := (hb.cell (p := ⟨c, 2, none⟩) hlt).trans x2
    have HB := Lib.hid hb
    clear hb
    have hk3 : k = 0 ∨ k = 1 ∨ k = 2 ∨ k = 3 := by omega
    rcases hk3 with rfl | rfl | rfl | rfl
    · go_wp2_with fail
      refine (withinT_any _ _ _ _).mono ?_
      rintro e w' ⟨rfl, rfl⟩
      rw [hl0]
      go_wp2_with fail
      refine (isWord_any _ _).mono ?_
      rintro e w2 ⟨rfl, hb2⟩
      rw [hd0]
      have HB2 := Lib.hid (bto HB.out hb2)
      clear hb2 y0 y1 y2
      go_wp2_with fail
      go_roundw
      case rel => exact ⟨1, by omega, by go_num, HB2.out⟩
      case measure => simp [intOf]
    · go_wp2_with fail
      refine (withinT_any _ _ _ _).mono ?_
      rintro e w' ⟨rfl, rfl⟩
      rw [hl1]
      go_wp2_with fail
      refine (isWord_any _ _).mono ?_
      rintro e w2 ⟨rfl, hb2⟩
      rw [hd1]
      have HB2 := Lib.hid (bto HB.out hb2)
      have z0 := (hb2.cell (p := ⟨c, 0, none⟩) (Nat.lt_of_lt_of_le hlt HB.out.size)).trans y0
      clear hb2 y0 y1 y2
      go_wp2_with fail
      go_roundw
      case rel => exact ⟨2, by omega, by go_num, HB2.out⟩
      case measure => simp [intOf]
    · go_wp2_with fail
      refine (withinT_any _ _ _ _).mono ?_
      rintro e w' ⟨rfl, rfl⟩
      rw [hl2]
      go_wp2_with fail
      refine (isWord_any _ _).mono ?_
      rintro e w2 ⟨rfl, hb2⟩
      rw [hd2]
      have HB2 := Lib.hid (bto HB.out hb2)
      have z0 := (hb2.cell (p := ⟨c, 1, none⟩) (Nat.lt_of_lt_of_le hlt HB.out.size)).trans y1
      clear hb2 y0 y1 y2
      go_wp2_with fail
      go_roundw
      case rel => exact ⟨3, by omega, by go_num, HB2.out⟩
      case measure => simp [intOf]
    · have hnlt : ¬ (3 : Int) < 3 := by omega
      go_wp2_with fail
      go_ret
      exact ⟨rfl, HB.out⟩
end Go.Proofs.Ytfjbggodniemeaa
