/- The imports of a fenced walk. -/
import Derived.Test.YtfjbggodniemeaaBase
import Derived.RangeFuncNested
import Derived.RangeFuncBound
import Derived.RangeFuncCalls
import Derived.RangeFuncLeaves
import Derived.Shelf.Abstract
import Derived.Shelf.RegionOpen
import Derived.OwnWalkIn
import Derived.TacticsInMore
import Derived.LoopNIn
import Derived.LoopIn
import Derived.Stop.RegionWithIn
import Derived.Sort.QuietIn
import Derived.Sort.QuietTacIn
namespace Go.Proofs.Ytfjbggodniemeaa
open Go.RowKit

theorem RoundIn.any {m : Nat} (m' : Nat) {l f : Nat} {tmps : Array Value} {ca bd : Code} {W : World} {R : Ending → World → Prop} (h : RoundIn Fence.wide m Try.prog l f tmps ca bd W R) : RoundIn Fence.wide m' Try.prog l f tmps ca bd W R :=
  ⟨h.1, fun c cs _ => h.2 c cs (room_wide _)⟩
theorem CallsIn.any {m : Nat} (m' : Nat) {f : Nat} {args : Array Value} {W : World} {R : Ending → World → Prop} (h : CallsIn Fence.wide m Try.prog f args W R) : CallsIn Fence.wide m' Try.prog f args W R := callsIn_wide.2 (callsIn_wide.1 h)
theorem below_drewN (w : World) (n : Nat) : Below w.heap.size w (w.drewN n) := by
  induction n generalizing w with
  | zero => exact Below.refl _ _
  | succ n ih =>
    have h : Below w.heap.size w.drew (w.drew.drewN n) := ih w.drew
    rw [← World.drew_drewN]
    exact ⟨h.os, h.tape, h.output, h.size, h.block⟩
theorem heap_drewN (w : World) (n k : Nat) : (w.drewN n).heap[k]? = w.heap[k]? := by
  induction n generalizing w with
  | zero => rfl
  | succ n ih => rw [← World.drew_drewN]; exact ih w
theorem size_drewN (w : World) (n : Nat) : (w.drewN n).heap.size = w.heap.size := by
  induction n generalizing w with
  | zero => rfl
  | succ n ih => rw [← World.drew_drewN]; exact ih w
theorem keeps_drewN (B : Nat) (w : World) (n : Nat) : KeepsFrom B w (w.drewN n) := ⟨by rw [size_drewN]; exact Nat.le_refl _, fun k o _ h _ => by rw [heap_drewN]; exact h⟩
theorem below_to {B : Nat} {w0 w w' : World} (h : Below B w0 w) (hB : B ≤ w.heap.size) (k : Below w.heap.size w w') : Below B w0 w' := h.trans (k.mono hB)
theorem keeps_set (B : Nat) (w : World) (k j : Nat) (v : Value) : KeepsFrom B w (w.setCell ⟨k, j, none⟩ v) := (KeepsOthers.setCell _ _ _).from _
end Go.Proofs.Ytfjbggodniemeaa
