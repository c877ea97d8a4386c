/- ply: Closure, Inside, Edge, IsSpace. -/
import Derived.Test.YtiihnfcgffaabaaDoorPBoth
set_option linter.unusedVariables false
set_option linter.unusedSimpArgs false
namespace Go.Proofs.YtiihnfcgffaabaaDoor
open Go.RowKit

/-- a space laid in memory behind a call -/
theorem lay_sp {w0 w : World} (hb : Below w0.heap.size w0 w) (n : Nat) (c : Nat → Nat) : SpF (w.alloc (.cells #[.int .i64 n, .int .u64 (c 0), .int .u64 (c 1), .int .u64 (c 2), .int .u64 (c 3), .int .u64 (c 4), .int .u64 (c 5)] 37)) w.heap.size n c ∧ Below w0.heap.size w0 (w.alloc (.cells #[.int .i64 n, .int .u64 (c 0), .int .u64 (c 1), .int .u64 (c 2), .int .u64 (c 3), .int .u64 (c 4), .int .u64 (c 5)] 37)) :=
  ⟨heap_alloc_new _ _, hb.alloc hb.size _⟩

set_option maxRecDepth 100000 in
set_option maxHeartbeats 800000 in
theorem Closure_yes (v : Value) (cs : List Nat) (s : Nat) (w : World) (hr : Reads w v (ofNats cs)) (hc : Codes cs) (hsp : spaceB cs = true) (hs : s < 2 ^ cs.length) (hT : Tab w) :
    Calls Tryd.prog 5 #[v, .int .i64 s] w fun e w' => e = .returned (.tuple #[.int .i64 (closureN cs s : Nat), .int .i64 0]) ∧ Below w.heap.size w w' := by
  have hr0 := hr
  obtain ⟨a, cap, rfl, _, _, _⟩ := hr.open
  have hv := wrapI (closureN cs s) (by have := lt64_of hc.2.1 (closure_lt cs s); omega)
  clear hr
  go_enter Tryd.func5, Tryd.ntmps5
  go_wp2_with fail
  refine (both_yes _ cs s _ hr0 hc hsp hs hT).mono ?_
  rintro e w1 ⟨rfl, hb1⟩
  obtain ⟨hs1, hb2⟩ := lay_sp hb1 cs.length (cell cs)
  have hT2 := hT.below hb2
  go_wp2_with fail
  generalize hW : World.alloc w1 _ = W at *
  clear hW
  obtain ⟨d0, d1, d2, d3, d4, d5, d6⟩ := hs1.cells
  clear hs1
  go_wp2_with fail
  refine (closure_any cs s _ hc hs hT2).mono ?_
  rintro e w2 ⟨rfl, hb3⟩
  go_wp2_with fail
  go_ret2
  exact ⟨rfl, below_to hb2 hb2.size hb3⟩

set_option maxRecDepth 100000 in
theorem Closure_no (v : Value) (l : List Int) (code : Int) (w : World) (hr : Reads w v l) (h : (spL l && setB l.length code) = false) (hT : Tab w) :
    Calls Tryd.prog 5 #[v, .int .i64 code] w fun e w' => e = .returned (.tuple #[.int .i64 0, .int .i64 2]) ∧ Below w.heap.size w w' := by
  have hr0 := hr
  obtain ⟨a, cap, rfl, _, _, _⟩ := hr.open
  clear hr
  go_enter Tryd.func5, Tryd.ntmps5
  go_wp2_with fail
  refine (both_no _ l code _ hr0 h hT).mono ?_
  rintro e w1 ⟨n, c, u, rfl, hb1⟩
  obtain ⟨hs1, hb2⟩ := lay_sp hb1 n c
  go_wp2_with fail
  go_ret2
  exact ⟨rfl, hb2⟩

set_option maxRecDepth 100000 in
set_option maxHeartbeats 800000 in
theorem Inside_yes (v : Value) (cs : List Nat) (s : Nat) (w : World) (hr : Reads w v (ofNats cs)) (hc : Codes cs) (hsp : spaceB cs = true) (hs : s < 2 ^ cs.length) (hT : Tab w) :
    Calls Tryd.prog 6 #[v, .int .i64 s] w fun e w' => e = .returned (.tuple #[.int .i64 (insideN cs s : Nat), .int .i64 0]) ∧ Below w.heap.size w w' := by
  have hr0 := hr
  obtain ⟨a, cap, rfl, _, _, _⟩ := hr.open
  have hv := wrapI (insideN cs s) (by have := lt64_of hc.2.1 (inside_lt cs s); omega)
  clear hr
  go_enter Tryd.func6, Tryd.ntmps6
  go_wp2_with fail
  refine (both_yes _ cs s _ hr0 hc hsp hs hT).mono ?_
  rintro e w1 ⟨rfl, hb1⟩
  obtain ⟨hs1, hb2⟩ := lay_sp hb1 cs.length (cell cs)
  have hT2 := hT.below hb2
  go_wp2_with fail
  generalize hW : World.alloc w1 _ = W at *
  clear hW
  obtain ⟨d0, d1, d2, d3, d4, d5, d6⟩ := hs1.cells
  clear hs1
  go_wp2_with fail
  refine (inside_any cs s _ hc hs hT2).mono ?_
  rintro e w2 ⟨rfl, hb3⟩
  go_wp2_with fail
  go_ret2
  exact ⟨rfl, below_to hb2 hb2.size hb3⟩

set_option maxRecDepth 100000 in
theorem Inside_no (v : Value) (l : List Int) (code : Int) (w : World) (hr : Reads w v l) (h : (spL l && setB l.length code) = false) (hT : Tab w) :
    Calls Tryd.prog 6 #[v, .int .i64 code] w fun e w' => e = .returned (.tuple #[.int .i64 0, .int .i64 2]) ∧ Below w.heap.size w w' := by
  have hr0 := hr
  obtain ⟨a, cap, rfl, _, _, _⟩ := hr.open
  clear hr
  go_enter Tryd.func6, Tryd.ntmps6
  go_wp2_with fail
  refine (both_no _ l code _ hr0 h hT).mono ?_
  rintro e w1 ⟨n, c, u, rfl, hb1⟩
  obtain ⟨hs1, hb2⟩ := lay_sp hb1 n c
  go_wp2_with fail
  go_ret2
  exact ⟨rfl, hb2⟩

def edgeN (cs : List Nat) (s : Nat) : Nat := diff (closureN cs s) (insideN cs s)
set_option maxRecDepth 100000 in
set_option maxHeartbeats 800000 in
theorem Edge_yes (v : Value) (cs : List Nat) (s : Nat) (w : World) (hr : Reads w v (ofNats cs)) (hc : Codes cs) (hsp : spaceB cs = true) (hs : s < 2 ^ cs.length) (hT : Tab w) :
    Calls Tryd.prog 7 #[v, .int .i64 s] w fun e w' => e = .returned (.tuple #[.int .i64 (edgeN cs s : Nat), .int .i64 0]) ∧ Below w.heap.size w w' := by
  have hr0 := hr
  obtain ⟨a, cap, rfl, _, _, _⟩ := hr.open
  have hk := lt64_of hc.2.1 (closure_lt cs s)
  have hi := lt64_of hc.2.1 (inside_lt cs s)
  have ha := u64_andNot (closureN cs s) (insideN cs s) (by omega) (by omega)
  have hv := wrapI (diff (closureN cs s) (insideN cs s)) (by have := diff_lt (k := 6) (b := insideN cs s) hk; omega)
  clear hr
  go_enter Tryd.func7, Tryd.ntmps7
  go_wp2_with fail
  refine (both_yes _ cs s _ hr0 hc hsp hs hT).mono ?_
  rintro e w1 ⟨rfl, hb1⟩
  obtain ⟨hs1, hb2⟩ := lay_sp hb1 cs.length (cell cs)
  have hT2 := hT.below hb2
  go_wp2_with fail
  generalize hW : World.alloc w1 _ = W at *
  clear hW
  obtain ⟨k0, k1, k2, k3, k4, k5, k6⟩ := hs1.regrown
  have cA : ∀ d os, Calls Tryd.prog 15 #[spV cs, .int .u64 s] (Go.Sort.grow (redrawn W d) os) fun e w'' => e = .returned (.int .u64 (closureN cs s : Nat)) ∧ ∃ p : Regrown, w'' = Go.Sort.grow (redrawn W p.d) p.os := fun d os => Calls.regrown_of (closure_any cs s _ hc hs (hT2.below (below_regrown W d os)))
  have cI : ∀ d os, Calls Tryd.prog 16 #[spV cs, .int .u64 s] (Go.Sort.grow (redrawn W d) os) fun e w'' => e = .returned (.int .u64 (insideN cs s : Nat)) ∧ ∃ p : Regrown, w'' = Go.Sort.grow (redrawn W p.d) p.os := fun d os => Calls.regrown_of (inside_any cs s _ hc hs (hT2.below (below_regrown W d os)))
  have HB := Lib.hid hb2
  clear hs1 hT2 hT hc hs hsp hr0 hb2 hb1
  refine wp_region_quiet_below (by kernel_rfl) (by kernel_rfl) ?_
  repeat (quiet_step (first | exact cA _ _ | exact cI _ _))
  refine wpQuiet_nil ?_
  intro _ hw'
  obtain ⟨⟨dq, osq⟩, hw''⟩ := hw'
  subst hw''
  go_wp2_with fail
  go_ret2
  exact ⟨rfl, below_to HB.out HB.out.size (below_regrown _ _ _)⟩

set_option maxRecDepth 100000 in
theorem Edge_no (v : Value) (l : List Int) (code : Int) (w : World) (hr : Reads w v l) (h : (spL l && setB l.length code) = false) (hT : Tab w) :
    Calls Tryd.prog 7 #[v, .int .i64 code] w fun e w' => e = .returned (.tuple #[.int .i64 0, .int .i64 2]) ∧ Below w.heap.size w w' := by
  have hr0 := hr
  obtain ⟨a, cap, rfl, _, _, _⟩ := hr.open
  clear hr
  go_enter Tryd.func7, Tryd.ntmps7
  go_wp2_with fail
  refine (both_no _ l code _ hr0 h hT).mono ?_
  rintro e w1 ⟨n, c, u, rfl, hb1⟩
  obtain ⟨hs1, hb2⟩ := lay_sp hb1 n c
  go_wp2_with fail
  go_ret2
  exact ⟨rfl, hb2⟩

end Go.Proofs.YtiihnfcgffaabaaDoor
