/- ply: closure. -/
import Derived.Test.YtfhcbaamibipcaaDoorPNs
import Derived.Lib.QuietBelow
set_option linter.unusedVariables false
set_option linter.unusedSimpArgs false
namespace Go.Proofs.YtfhcbaamibipcaaDoor
open Go.RowKit

theorem SpF.regrown {w : World} {b n : Nat} {c : Nat → Nat} (h : SpF w b n c) :
    (∀ d os, (Go.Sort.grow (redrawn w d) os).cell? ⟨b, 0, none⟩ = some (.int .i64 n)) ∧ (∀ d os, (Go.Sort.grow (redrawn w d) os).cell? ⟨b, 1, none⟩ = some (.int .u64 (c 0))) ∧ (∀ d os, (Go.Sort.grow (redrawn w d) os).cell? ⟨b, 2, none⟩ = some (.int .u64 (c 1))) ∧ (∀ d os, (Go.Sort.grow (redrawn w d) os).cell? ⟨b, 3, none⟩ = some (.int .u64 (c 2))) ∧
    (∀ d os, (Go.Sort.grow (redrawn w d) os).cell? ⟨b, 4, none⟩ = some (.int .u64 (c 3))) ∧ (∀ d os, (Go.Sort.grow (redrawn w d) os).cell? ⟨b, 5, none⟩ = some (.int .u64 (c 4))) ∧ (∀ d os, (Go.Sort.grow (redrawn w d) os).cell? ⟨b, 6, none⟩ = some (.int .u64 (c 5))) := by
  obtain ⟨c0, c1, c2, c3, c4, c5, c6⟩ := h.cells
  exact ⟨cell_regrown c0, cell_regrown c1, cell_regrown c2, cell_regrown c3, cell_regrown c4, cell_regrown c5, cell_regrown c6⟩

theorem allN_lt64 {n : Nat} (hn : n ≤ 6) : allN n < 64 := Nat.lt_of_lt_of_le (all_lt n) (Nat.pow_le_pow_right (n := 2) (by omega) hn)
theorem lt64_of {n s : Nat} (hn : n ≤ 6) (hs : s < 2 ^ n) : s < 64 := Nat.lt_of_lt_of_le hs (Nat.pow_le_pow_right (n := 2) (by omega) hn)
set_option maxRecDepth 100000 in
set_option maxHeartbeats 1600000 in
theorem closure_any (cs : List Nat) (s : Nat) (w : World) (hc : Codes cs) (hs : s < 2 ^ cs.length) (hT : Tab w) :
    Calls Tryd.prog 10 #[spV cs, .int .u64 s] w fun e w' => e = .returned (.int .u64 (closureN cs s : Nat)) ∧ Below w.heap.size w w' := by
  have hn6 := hc.2.1
  have hal : Below w.heap.size w (w.alloc (.cells #[.int .i64 cs.length, .int .u64 (cell cs 0), .int .u64 (cell cs 1), .int .u64 (cell cs 2), .int .u64 (cell cs 3), .int .u64 (cell cs 4), .int .u64 (cell cs 5)] 35)) := (Below.refl _ _).alloc (Nat.le_refl _) _
  have hs1 : SpF (w.alloc (.cells #[.int .i64 cs.length, .int .u64 (cell cs 0), .int .u64 (cell cs 1), .int .u64 (cell cs 2), .int .u64 (cell cs 3), .int .u64 (cell cs 4), .int .u64 (cell cs 5)] 35)) w.heap.size cs.length (cell cs) := heap_alloc_new _ _
  have ha1 := u64_andNot (allN cs.length) s (by have := allN_lt64 hn6; omega) (by have := lt64_of hn6 hs; omega)
  have ha2 := u64_andNot (allN cs.length) (insideN cs (otherN cs.length s)) (by have := allN_lt64 hn6; omega) (by have := lt64_of hn6 (inside_lt cs (otherN cs.length s)); omega)
  have hT1 := hT.below hal
  go_enter Tryd.func10, Tryd.ntmps10
  go_wp2_with fail
  generalize hW : World.alloc w _ = W at *
  clear hW
  generalize hB : w.heap.size = B at *
  obtain ⟨k0, k1, k2, k3, k4, k5, k6⟩ := hs1.regrown
  have cA : ∀ d os, Calls Tryd.prog 18 #[spV cs] (Go.Sort.grow (redrawn W d) os) fun e w'' => e = .returned (.int .u64 (allN cs.length : Nat)) ∧ ∃ p : Regrown, w'' = Go.Sort.grow (redrawn W p.d) p.os := fun d os => Calls.regrown_of (all_any cs _ hn6)
  have cI : ∀ d os, Calls Tryd.prog 19 #[spV cs, .int .u64 (diff (allN cs.length) s : Nat)] (Go.Sort.grow (redrawn W d) os) fun e w'' => e = .returned (.int .u64 (insideN cs (otherN cs.length s) : Nat)) ∧ ∃ p : Regrown, w'' = Go.Sort.grow (redrawn W p.d) p.os := fun d os => Calls.regrown_of (inside_any cs (otherN cs.length s) _ hc (other_lt _ _) (hT1.below (below_regrown W d os)))
  have HAL := Lib.hid hal
  clear hs1 hT hT1 hal hc hs
  refine wp_region_quiet_below (by kernel_rfl) (by kernel_rfl) ?_
  repeat (quiet_step (first | exact cA _ _ | exact cI _ _))
  refine wpQuiet_nil ?_
  intro _ hw'
  obtain ⟨⟨dq, osq⟩, hw''⟩ := hw'
  subst hw''
  go_wp2_with fail
  go_ret
  exact ⟨rfl, by subst hB; exact below_to HAL.out HAL.out.size (below_regrown _ _ _)⟩
end Go.Proofs.YtfhcbaamibipcaaDoor
