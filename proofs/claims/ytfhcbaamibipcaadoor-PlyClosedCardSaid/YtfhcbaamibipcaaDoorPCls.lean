/- ply: Closure, Inside, Edge, IsSpace. -/
import Derived.Test.YtfhcbaamibipcaaDoorPBoth
set_option linter.unusedVariables false
set_option linter.unusedSimpArgs false
namespace Go.Proofs.YtfhcbaamibipcaaDoor
open Go.RowKit

/-- a space laid in memory behind a call -/
theorem lay_sp {w0 w : World} (hb : Below w0.heap.size w0 w) (n : Nat) (c : Nat → Nat) : SpF (w.alloc (.cells #[.int .i64 n, .int .u64 (c 0), .int .u64 (c 1), .int .u64 (c 2), .int .u64 (c 3), .int .u64 (c 4), .int .u64 (c 5)] 35)) w.heap.size n c ∧ Below w0.heap.size w0 (w.alloc (.cells #[.int .i64 n, .int .u64 (c 0), .int .u64 (c 1), .int .u64 (c 2), .int .u64 (c 3), .int .u64 (c 4), .int .u64 (c 5)] 35)) :=
  ⟨heap_alloc_new _ _, hb.alloc hb.size _⟩

set_option maxRecDepth 100000 in
set_option maxHeartbeats 800000 in
theorem Closure_yes (v : Value) (cs : List Nat) (s : Nat) (w : World) (hr : Reads w v (ofNats cs)) (hc : Codes cs) (hsp : spaceB cs = true) (hs : s < 2 ^ cs.length) (hT : Tab w) :
    Calls Tryd.prog 6 #[v, .int .i64 s] w fun e w' => e = .returned (.tuple #[.int .i64 (closureN cs s : Nat), .int .i64 0]) ∧ Below w.heap.size w w' := by
  have hr0 := hr
  obtain ⟨a, cap, rfl, _, _, _⟩ := hr.open
  have hv := wrapI (closureN cs s) (by have := lt64_of hc.2.1 (closure_lt cs s); omega)
  clear hr
  go_enter Tryd.func6, Tryd.ntmps6
  go_wp2_with fail
  refine (both_yes _ cs s _ hr0 hc hsp hs hT).mono ?_
  rintro e w1 ⟨rfl, hb1⟩
  obtain ⟨hs1, hb2⟩ := lay_sp hb1 cs.length (cell cs)
  have hT2 := hT.below hb2
  go_wp2_with fail
  generalize hW : World.alloc w1 _ = W at *
  clear hW
  obtain ⟨d0, d1, d2, d3, d4, d5, d6⟩ := hs1.cells
  clear hs1
  go_wp2_with fail
  refine (closure_any cs s _ hc hs hT2).mono ?_
  rintro e w2 ⟨rfl, hb3⟩
  go_wp2_with fail
  go_ret2
  exact ⟨rfl, below_to hb2 hb2.size hb3⟩

set_option maxRecDepth 100000 in
theorem Closure_no (v : Value) (l : List Int) (code : Int) (w : World) (hr : Reads w v l) (h : (spL l && setB l.length code) = false) (hT : Tab w) :
    Calls Tryd.prog 6 #[v, .int .i64 code] w fun e w' => e = .returned (.tuple #[.int .i64 0, .int .i64 2]) ∧ Below w.heap.size w w' := by
  have hr0 := hr
  obtain ⟨a, cap, rfl, _, _, _⟩ := hr.open
  clear hr
  go_enter Tryd.func6, Tryd.ntmps6
  go_wp2_with fail
  refine (both_no _ l code _ hr0 h hT).mono ?_
  rintro e w1 ⟨n, c, u, rfl, hb1⟩
  obtain ⟨hs1, hb2⟩ := lay_sp hb1 n c
  go_wp2_with fail
  go_ret2
  exact ⟨rfl, hb2⟩

def edgeN (cs : List Nat) (s : Nat) : Nat := diff (closureN cs s) (insideN cs s)
end Go.Proofs.YtfhcbaamibipcaaDoor
