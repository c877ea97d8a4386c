/- slices.Repeat of one number, 15 times. -/
import Derived.Test.YtfjbggodniemeaaTpN
import Derived.Test.YtfjbggodniemeaaTpShelf
import Derived.Deep.RegionLaw
import Derived.Laws.CopyOwn
import Derived.Deep.RegionHeld3
set_option linter.unusedVariables false
set_option linter.unusedSimpArgs false
namespace Go.Proofs.Ytfjbggodniemeaa
open Go.RowKit

def onesTo (m : Nat) : List Value := List.replicate m (.int .i64 1) ++ List.replicate (15 - m) (.int .i64 0)
theorem sizeInt : (Try.prog.info? 3).map (·.size) = some 1 := by kernel_rfl
theorem ones_src {W : World} {g : Nat} {cs : List Value} {t : TypeId} (hc : W.heap[g]? = some (.cells cs.toArray t (0, 0))) (k : Nat) : ∀ (j : Nat) (v : Value), (cs.take k)[j]? = some v → W.drew.cell? ((⟨g, 0, none⟩ : Addr).add j) = some v := fun j v hj => by
  have e : (⟨g, 0, none⟩ : Addr).add j = ⟨g, j, none⟩ := by
    unfold Addr.add
    split
    · rename_i h; subst h; rfl
    · simp
  rw [e]
  show W.cell? ⟨g, j, none⟩ = some v
  refine cell_of hc ?_
  rw [List.getElem?_toArray]
  rw [List.getElem?_take] at hj
  split at hj
  · exact hj
  · cases hj
theorem ones_one (m k : Nat) : ∀ v ∈ (onesTo m).take k, v.oneCell' = true := fun v hv => by
  have h := List.mem_of_mem_take hv
  unfold onesTo at h
  rw [List.mem_append] at h
  rcases h with h | h <;> (rw [List.eq_of_mem_replicate h]; rfl)
set_option maxRecDepth 100000 in
set_option maxHeartbeats 1600000 in
theorem repeat_any (g0 : Nat) (w : World) (h0 : w.heap[g0]? = some (.cells #[.int .i64 1] 3)) :
    Calls Try.prog 35 #[.slice (some ⟨g0, 0, none⟩) 1 1, .int .i64 15] w fun e w' => e = .returned (.slice (some ⟨w.heap.size, 0, none⟩) 15 15) ∧ w'.heap[w.heap.size]? = some (.cells (onesTo 15).toArray 3) ∧ Below w.heap.size w w' := by
  go_enter Try.func35, Try.ntmps35
  go_wp2_with fail
  refine (Try.bits_Mul 1 15 (by omega) (by omega) _).mono ?_
  rintro e w' ⟨rfl, rfl⟩
  have hd : ((1 * 15 / 18446744073709551616 : Nat) : Int) = 0 := by decide
  have hm : ((1 * 15 % 18446744073709551616 : Nat) : Int) = 15 := by decide
  rw [hd, hm]
  clear hd hm
  have c0 := cell_of h0 (j := 0) rfl
  obtain ⟨i0, hi0, hz0, hz1, hz2⟩ := info_parts infoInt
  have HC0 := Lib.hid c0
  have HH0 := Lib.hid h0
  clear c0 h0
  go_wp2_with (first
    | (at_make; refine wpList_make_full _ rfl _ _ 51 rfl w'.heap.size 3 i0 (.int .i64 0) 1 Try.underlying51 hi0 hz0 hz1 .i64 .i64 _ _ 15 rfl rfl rfl rfl (by rw [hz2]; omega) (by unfold maxLen; omega) (Nat.le_refl _) ?_; intro w1 hown1 hgrow1; have HM := Lib.hid (made_block rfl hown1 hgrow1); have HR0 : Hid (w1.cell? ⟨g0, 0, none⟩ = some (.int .i64 1)) := Lib.hid ((HM.out.2.cell (p := ⟨g0, 0, none⟩) (heap_lt HH0.out)).trans HC0.out))
    | (refine wpList_copy_splice rfl _ _ 51 51 rfl 3 Try.underlying51 sizeInt _ _ 15 15 1 1 rfl rfl w'.heap.size 0 (List.replicate 15 (.int .i64 0)) 3 HM.out.1 [.int .i64 1] rfl (fun _ => ⟨rfl, ⟨g0, 0, none⟩, rfl, fun j v hj => by rcases j with _ | j <;> simp at hj; subst hj; exact HR0.out⟩) (by decide) (by decide) w'.heap.size w' HM.out.2 (Nat.le_refl _) ?_; intro w2 hw2 hb2))
  have hw2' : w2.heap[w'.heap.size]? = some (.cells (onesTo 1).toArray 3) := hw2
  clear hw2 HR0 HC0 HH0 HM
  have HW2 := Lib.hid hw2'
  have HB2 := Lib.hid hb2
  clear hw2' hb2
  go_loopw [8] (fun i W => ∃ m : Nat, (m = 1 ∨ m = 2 ∨ m = 4 ∨ m = 8 ∨ m = 15) ∧ i = .int .i64 m ∧ W.heap[w'.heap.size]? = some (.cells (onesTo m).toArray 3) ∧ Below w'.heap.size w' W) (fun i _ => 15 - (intOf i).toNat)
  case atStart => exact ⟨1, .inl rfl, rfl, HW2.out, HB2.out⟩
  case round =>
    obtain ⟨m, hm, rfl, hc, hb⟩ := hrel
    generalize wr = W at *
    rcases hm with rfl | rfl | rfl | rfl | rfl
    · have HB := Lib.hid hb
      have HC := Lib.hid hc
      have HSRC := Lib.hid (ones_src hc 1)
      clear hb hc
      go_wp2_with fail
      go_region_held3 (fun w' => True) (trivial)
        (first | (refine step_copy_splice rfl _ _ 51 51 rfl 3 Try.underlying51 sizeInt (some ⟨w'.heap.size, 1, none⟩) (some ⟨w'.heap.size, 0, none⟩) 14 14 1 15 rfl rfl w'.heap.size 1 (onesTo 1) 3 HC.out ((onesTo 1).take 1) rfl (fun _ => ⟨rfl, _, rfl, HSRC.out⟩) (by decide) (ones_one 1 1) w'.heap.size w' HB.out.drew (Nat.le_refl _) ?_; intro W2 hw2 hb2))
      have HW2 : Hid (W2.heap[w'.heap.size]? = some (.cells (onesTo 2).toArray 3)) := Lib.hid hw2
      have HB2 := Lib.hid hb2
      clear hw2 hb2
      go_wp2_with fail
      go_roundw
      case rel => exact ⟨2, by simp, rfl, HW2.out, HB2.out⟩
      case measure => decide
    · have HB := Lib.hid hb
      have HC := Lib.hid hc
      have HSRC := Lib.hid (ones_src hc 2)
      clear hb hc
      go_wp2_with fail
      go_region_held3 (fun w' => True) (trivial)
        (first | (refine step_copy_splice rfl _ _ 51 51 rfl 3 Try.underlying51 sizeInt (some ⟨w'.heap.size, 2, none⟩) (some ⟨w'.heap.size, 0, none⟩) 13 13 2 15 rfl rfl w'.heap.size 2 (onesTo 2) 3 HC.out ((onesTo 2).take 2) rfl (fun _ => ⟨rfl, _, rfl, HSRC.out⟩) (by decide) (ones_one 2 2) w'.heap.size w' HB.out.drew (Nat.le_refl _) ?_; intro W2 hw2 hb2))
      have HW2 : Hid (W2.heap[w'.heap.size]? = some (.cells (onesTo 4).toArray 3)) := Lib.hid hw2
      have HB2 := Lib.hid hb2
      clear hw2 hb2
      go_wp2_with fail
      go_roundw
      case rel => exact ⟨4, by simp, rfl, HW2.out, HB2.out⟩
      case measure => decide
    · have HB := Lib.hid hb
      have HC := Lib.hid hc
      have HSRC := Lib.hid (ones_src hc 4)
      clear hb hc
      go_wp2_with fail
      go_region_held3 (fun w' => True) (trivial)
        (first | (refine step_copy_splice rfl _ _ 51 51 rfl 3 Try.underlying51 sizeInt (some ⟨w'.heap.size, 4, none⟩) (some ⟨w'.heap.size, 0, none⟩) 11 11 4 15 rfl rfl w'.heap.size 4 (onesTo 4) 3 HC.out ((onesTo 4).take 4) rfl (fun _ => ⟨rfl, _, rfl, HSRC.out⟩) (by decide) (ones_one 4 4) w'.heap.size w' HB.out.drew (Nat.le_refl _) ?_; intro W2 hw2 hb2))
      have HW2 : Hid (W2.heap[w'.heap.size]? = some (.cells (onesTo 8).toArray 3)) := Lib.hid hw2
      have HB2 := Lib.hid hb2
      clear hw2 hb2
      go_wp2_with fail
      go_roundw
      case rel => exact ⟨8, by simp, rfl, HW2.out, HB2.out⟩
      case measure => decide
    · have HB := Lib.hid hb
      have HC := Lib.hid hc
      have HSRC := Lib.hid (ones_src hc 7)
      clear hb hc
      go_wp2_with fail
      go_region_held3 (fun w' => True) (trivial)
        (first | (refine step_copy_splice rfl _ _ 51 51 rfl 3 Try.underlying51 sizeInt (some ⟨w'.heap.size, 8, none⟩) (some ⟨w'.heap.size, 0, none⟩) 7 7 8 15 rfl rfl w'.heap.size 8 (onesTo 8) 3 HC.out ((onesTo 8).take 7) rfl (fun _ => ⟨rfl, _, rfl, HSRC.out⟩) (by decide) (ones_one 8 7) w'.heap.size w' HB.out.drew (Nat.le_refl _) ?_; intro W2 hw2 hb2))
      have HW2 : Hid (W2.heap[w'.heap.size]? = some (.cells (onesTo 15).toArray 3)) := Lib.hid hw2
      have HB2 := Lib.hid hb2
      clear hw2 hb2
      go_wp2_with fail
      go_roundw
      case rel => exact ⟨15, by simp, rfl, HW2.out, HB2.out⟩
      case measure => decide
    · have HC := Lib.hid hc
      have HB := Lib.hid hb
      clear hb hc
      go_wp2_with fail
      go_ret
      exact ⟨rfl, HC.out, HB.out⟩
end Go.Proofs.Ytfjbggodniemeaa
