/- remouldtop: four. -/
import Derived.Test.YtfjbggodniemeaaTpPl
import Derived.Test.YtfjbggodniemeaaMod
set_option linter.unusedVariables false
set_option linter.unusedSimpArgs false
namespace Go.Proofs.Ytfjbggodniemeaa
open Go.RowKit

set_option maxRecDepth 100000 in
set_option maxHeartbeats 3200000 in
theorem four_any (w : World) (hm : MaxAt w) :
    Calls Try.prog 8 #[] w fun e w' => e = .returned (.bool true) ∧ Below w.heap.size w w' := by
  have HMX := Lib.hid hm
  have HG : Hid (∀ W : World, Calls Try.prog 5 #[.int .i64 5] W fun e w' => e = .returned (.tuple #[.string ⟨#[76, 83, 76, 76, 83]⟩, .int .i64 0]) ∧ Below W.heap.size W w') := Lib.hid (fun W => by
    have := Gaps_any 5 (by omega) W
    rw [gaps5] at this
    exact this)
  clear hm
  go_enter Try.func8, Try.ntmps8
  go_wp2_with fail
  refine (HG.out _).mono ?_
  rintro e w1 ⟨rfl, hb1⟩
  have HB1 := Lib.hid hb1
  clear hb1
  go_wp2_with fail
  have hal : Below w1.heap.size w1 (w1.alloc (.cells #[.string ⟨#[97, 97]⟩, .string ⟨#[97, 98]⟩, .string ⟨#[98, 98]⟩] 9)) := (Below.refl _ _).alloc (Nat.le_refl _) _
  have hcell : (w1.alloc (.cells #[.string ⟨#[97, 97]⟩, .string ⟨#[97, 98]⟩, .string ⟨#[98, 98]⟩] 9)).heap[w1.heap.size]? = some (.cells #[.string ⟨#[97, 97]⟩, .string ⟨#[97, 98]⟩, .string ⟨#[98, 98]⟩] 9 (0, 0)) := heap_alloc_new _ _
  have hrt : ReadsT (w1.alloc (.cells #[.string ⟨#[97, 97]⟩, .string ⟨#[97, 98]⟩, .string ⟨#[98, 98]⟩] 9)) (.slice (some ⟨w1.heap.size, 0, none⟩) 3 3) ss2 := ⟨w1.heap.size, 3, rfl, by simp, fun j hj => by
    have : j = 0 ∨ j = 1 ∨ j = 2 := by simp [ss2] at hj; omega
    rcases this with rfl | rfl | rfl <;> exact cell_of hcell rfl⟩
  have hb2 := HB1.out.trans (hal.mono HB1.out.size)
  refine (Longest_any _ _ hrt (HMX.out.below hb2)).mono ?_
  rintro e w3 ⟨rfl, hb3⟩
  have HB3 := Lib.hid (hb2.trans (hb3.mono hb2.size))
  clear hal hcell hrt hb2 hb3
  go_wp2_with fail
  go_ret
  exact ⟨rfl, HB3.out⟩
end Go.Proofs.Ytfjbggodniemeaa
