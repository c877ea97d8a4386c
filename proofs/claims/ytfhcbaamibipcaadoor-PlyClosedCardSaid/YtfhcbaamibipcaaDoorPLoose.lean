/- ply: loose. -/
import Derived.Test.YtfhcbaamibipcaaDoorPList
import Derived.Test.YtfhcbaamibipcaaDoorCoreLaw
set_option linter.unusedVariables false
set_option linter.unusedSimpArgs false
namespace Go.Proofs.YtfhcbaamibipcaaDoor
open Go.RowKit Go.Shelf
attribute [local go_sem] Oper.semAt_some

theorem pow_int (p : Nat) : (((2 ^ p : Nat) : Int)) = (2 : Int) ^ p := by push_cast; rfl
theorem eqInt {a b : Nat} (h : a = b) : ((a : Int) == (b : Int)) = true := by simp [h]
theorem neInt {a b : Nat} (h : ¬ a = b) : ((a : Int) == (b : Int)) = false := by
  rw [beq_eq_false_iff_ne]; intro e; apply h; exact_mod_cast e
/-- the two tests of loose, one after the other -/
def loose1 (cs : List Nat) (s p q : Nat) : Bool := decide (diff (cell cs p &&& s) (2 ^ p) = cell cs q &&& s)
theorem looseAt_two (cs : List Nat) (s p q : Nat) : looseAt cs s p q = (loose1 cs s p q || loose1 (turnedN cs) s p q) := rfl

set_option maxRecDepth 100000 in
set_option maxHeartbeats 1600000 in
theorem loose_any (cs : List Nat) (s p : Nat) (w : World) (hc : Codes cs) (hs : s < 2 ^ cs.length) (hp : p < 6) (hT : Tab w) :
    Calls Tryd.prog 32 #[spV cs, .int .u64 s, .int .i64 p] w fun e w' => e = .returned (.bool (looseB cs s p)) ∧ Below w.heap.size w w' := by
  have hn6 := hc.2.1
  have h64 := lt64_of hn6 hs
  have hd64 : diff s (2 ^ p) < 64 := diff_lt (k := 6) h64
  have HC := Lib.hid (cell_64 hc)
  have HCT := Lib.hid (cell_64 (turned_codes hc))
  have HTL := turned_len cs
  have hCODES := Lib.hid hc
  have hsh := shl_num p hp
  have hpw := pow_lt64 hp
  clear hc hs
  refine (callsIn_wide (n := 20)).1 ?_
  refine callsIn_of_wp_marks Tryd.func32 rfl trivial ?_ rfl
  simp only [Tryd.ntmps32, List.size_toArray, List.length_cons, List.length_nil, Nat.reduceAdd, Nat.reduceSub, Array.replicate_succ, Array.replicate_zero, List.push_toArray, List.append_toArray, List.nil_append, List.cons_append]
  gi_wp2_with fail
  generalize hW0 : World.alloc (World.alloc (World.alloc (World.alloc w _) _) _) _ = W0
  have hsz : W0.heap.size = w.heap.size + 4 := by rw [← hW0]; simp
  have hbW : Below w.heap.size w W0 := by rw [← hW0]; exact ((((Below.refl _ _).alloc (Nat.le_refl _) _).alloc (by simp) _).alloc (by simp <;> omega) _).alloc (by simp <;> omega) _
  have hb0 : SpF W0 w.heap.size cs.length (cell cs) := by rw [← hW0]; exact alloc_old (alloc_old (alloc_old (heap_alloc_new _ _)))
  have hb1 : W0.heap[w.heap.size + 1]? = some (.cells #[.int .u64 s] 32) := by rw [← hW0]; exact alloc_old (alloc_old (heap_alloc_at _ _ _ (by simp)))
  have hb2 : W0.heap[w.heap.size + 2]? = some (.cells #[.int .i64 p] 3) := by rw [← hW0]; exact alloc_old (heap_alloc_at _ _ _ (by simp))
  have hb3 : W0.heap[w.heap.size + 3]? = some (.cells #[.bool false] 4) := by rw [← hW0]; exact heap_alloc_at _ _ _ (by simp)
  clear hW0
  refine ⟨trivial, (callsIn_wide.2 (turned_any cs _ hCODES.out)).mono ?_⟩
  rintro e w1 ⟨rfl, hbt⟩
  have s0 := hb0.below hbt
  have s1 := (hbt.block _ (heap_lt hb1)).trans hb1
  have s2 := (hbt.block _ (heap_lt hb2)).trans hb2
  have s3 := (hbt.block _ (heap_lt hb3)).trans hb3
  have hbw := below_to hbW hbW.size hbt
  have hszt := hbt.size
  clear hb0 hb1 hb2 hb3 hbW hbt
  gi_wp2_with fail
  have hal : Below w1.heap.size w1 (w1.alloc (.cells #[.int .i64 cs.length, .int .u64 (cell (turnedN cs) 0), .int .u64 (cell (turnedN cs) 1), .int .u64 (cell (turnedN cs) 2), .int .u64 (cell (turnedN cs) 3), .int .u64 (cell (turnedN cs) 4), .int .u64 (cell (turnedN cs) 5)] 35)) := (Below.refl _ _).alloc (Nat.le_refl _) _
  have s4 : SpF (w1.alloc (.cells #[.int .i64 cs.length, .int .u64 (cell (turnedN cs) 0), .int .u64 (cell (turnedN cs) 1), .int .u64 (cell (turnedN cs) 2), .int .u64 (cell (turnedN cs) 3), .int .u64 (cell (turnedN cs) 4), .int .u64 (cell (turnedN cs) 5)] 35)) w1.heap.size cs.length (cell (turnedN cs)) := heap_alloc_new _ _
  replace s0 := s0.below hal
  replace s1 := (hal.block _ (heap_lt s1)).trans s1
  replace s2 := (hal.block _ (heap_lt s2)).trans s2
  replace s3 := (hal.block _ (heap_lt s3)).trans s3
  replace hbw := below_to hbw hbw.size hal
  have hsz2 : (w1.alloc (.cells #[.int .i64 cs.length, .int .u64 (cell (turnedN cs) 0), .int .u64 (cell (turnedN cs) 1), .int .u64 (cell (turnedN cs) 2), .int .u64 (cell (turnedN cs) 3), .int .u64 (cell (turnedN cs) 4), .int .u64 (cell (turnedN cs) 5)] 35)).heap.size = w1.heap.size + 1 := by simp
  generalize hW2 : World.alloc w1 _ = W2 at *
  clear hW2 hal
  generalize hB1 : w1.heap.size = B1 at *
  clear hB1
  have HSZ : Hid (w.heap.size + 4 ≤ B1) := Lib.hid (by omega)
  have c1 := cell_of s1 (j := 0) rfl
  have c2 := cell_of s2 (j := 0) rfl
  have p0 : (0 : Int) ≤ (p : Int) := by omega
  have p6 : (p : Int) < 6 := by omega
  have hdf : bits .andNot .u64 (s : Int) ((2 : Int) ^ p) = ((diff s (2 ^ p) : Nat) : Int) := by
    have := u64_andNot s (2 ^ p) (by omega) (by omega)
    rwa [pow_int] at this
  have S0 := Lib.hid s0
  have S1 := Lib.hid s1
  have S2 := Lib.hid s2
  have S3 := Lib.hid s3
  have S4 := Lib.hid s4
  have HBW := Lib.hid hbw
  clear s0 s1 s2 s3 s4 hbw
  refine region_then 4 rfl rfl rfl (by kernel_rfl) (by kernel_rfl) (by kernel_rfl) (by kernel_rfl) (by kernel_rfl) (by kernel_rfl) ?_
  dsimp only [List.dropLast]
  repeat (gi_big_quiet_step (fail))
  refine wpQuietIn_nil ?_
  intro _ hw'
  obtain ⟨nq, hw''⟩ := hw'
  subst hw''
  have hszd := size_drewN W2 nq
  rw [hsz2] at hszd
  have r0 := S0.out.drewN nq
  have r1 := (heap_drewN W2 nq _).trans S1.out
  have r2 := (heap_drewN W2 nq _).trans S2.out
  have r3 := (heap_drewN W2 nq _).trans S3.out
  have r4 := S4.out.drewN nq
  have rb := below_to HBW.out HBW.out.size (below_drewN W2 nq)
  generalize hW3 : W2.drewN nq = W3 at *
  clear hW3 c1 c2 S0 S1 S2 S3 S4 HBW hsz2
  go_simp
  refine ⟨trivial, (callsIn_wide.2 (points_any (diff s (2 ^ p)) _)).mono ?_⟩
  rintro e w2 ⟨rfl, rfl⟩
  have hal : Below W3.heap.size W3 (W3.alloc (.cells #[.int .u64 (diff s (2 ^ p) : Nat)] 32)) := (Below.refl _ _).alloc (Nat.le_refl _) _
  have hBs := heap_alloc_new W3 (.cells #[.int .u64 (diff s (2 ^ p) : Nat)] 32)
  replace r0 := r0.below hal
  replace r1 := (hal.block _ (heap_lt r1)).trans r1
  replace r2 := (hal.block _ (heap_lt r2)).trans r2
  replace r3 := (hal.block _ (heap_lt r3)).trans r3
  replace r4 := r4.below hal
  replace rb := below_to rb rb.size hal
  have hsz4 : (W3.alloc (.cells #[.int .u64 (diff s (2 ^ p) : Nat)] 32)).heap.size = B1 + 2 := by simp [hszd]
  rw [hszd] at hBs ⊢
  generalize hW4 : World.alloc W3 _ = W4 at *
  clear hW4 hal hszd
  gi_wp2_with fail
  have hsz := HSZ.out
  refine range_pts (gf := 37) (Bs := B1 + 1) (s := diff s (2 ^ p)) rfl (enters_of Tryd.func37 (by kernel_rfl) rfl)
    (points_given (diff s (2 ^ p)) (B1 + 1) hd64 19 (by omega) W4 (by omega)) hBs rfl
    (fun pre W => SpF W w.heap.size cs.length (cell cs) ∧ W.heap[w.heap.size + 1]? = some (.cells #[.int .u64 s] 32) ∧ W.heap[w.heap.size + 2]? = some (.cells #[.int .i64 p] 3) ∧ W.heap[w.heap.size + 3]? = some (.cells #[.bool false] 4) ∧ SpF W B1 cs.length (cell (turnedN cs)) ∧ Below w.heap.size w W ∧ ∀ q ∈ pre, looseAt cs s p q = false)
    (fun c pre W => c = .ret ∧ W.heap[w.heap.size + 3]? = some (.cells #[.bool true] 4) ∧ Below w.heap.size w W ∧ looseB cs s p = true) ?a1 ?hI ?hIx ?hIB (fun pre W h => hT.below h.2.2.2.2.2.1) ⟨r0, r1, r2, r3, r4, rb, by simp⟩ ?assign ?body ?done ?stop
  case assign =>
    intro l x W K hK
    gi_wp2
    exact hK
  case hI =>
    rintro s W W' row ⟨h1, h2, h3, h4, h5, h6, h7⟩ hg hr
    exact ⟨own_block hg hr (by omega) h1, own_block hg hr (by omega) h2, own_block hg hr (by omega) h3, own_block hg hr (by omega) h4, own_block hg hr (by omega) h5, h6.grown hg h6.size (fun k e => by have := (hr k e).1; omega), h7⟩
  case hIx =>
    rintro c s W W' row ⟨h1, h2, h4, h5⟩ hg hr
    exact ⟨h1, own_block hg hr (by omega) h2, h4.grown hg h4.size (fun k e => by have := (hr k e).1; omega), h5⟩
  case hIB =>
    rintro s W v ⟨h1, h2, h3, h4, h5, h6, h7⟩
    exact ⟨h1.other (by omega), set_other h2 (by omega), set_other h3 (by omega), set_other h4 (by omega), h5.other (by omega), h6.setCell (p := ⟨B1 + 1, 0, none⟩) (by simp; omega) _, h7⟩
  case body =>
    rintro l pre x W hl ⟨h1, h2, h3, h4, h5, h6, h7⟩ hpx
    obtain ⟨hxb, hx6⟩ := pre_bit hd64 hpx
    have q1 := h1.cell hx6
    have q2 := h1.cell hp
    have q3 := h5.cell hx6
    have q4 := h5.cell hp
    have c1 := cell_of h2 (j := 0) rfl
    have c2 := cell_of h3 (j := 0) rfl
    have c3 := cell_of h4 (j := 0) rfl
    have f3 := free_of h4 0
    have a1 := HC.out x
    have a2 := HC.out p
    have a3 := HCT.out x
    have a4 := HCT.out p
    have e1 := u64_and (cell cs p) s (by omega) (by omega)
    have e2 := u64_and (cell cs x) s (by omega) (by omega)
    have e3 := u64_and (cell (turnedN cs) p) s (by omega) (by omega)
    have e4 := u64_and (cell (turnedN cs) x) s (by omega) (by omega)
    have n1 : cell cs p &&& s < 64 := and_lt (n := 64) a2
    have n2 : cell (turnedN cs) p &&& s < 64 := and_lt (n := 64) a4
    have e5 : bits .andNot .u64 ((cell cs p &&& s : Nat) : Int) ((2 : Int) ^ p) = ((diff (cell cs p &&& s) (2 ^ p) : Nat) : Int) := by
      have := u64_andNot (cell cs p &&& s) (2 ^ p) (by omega) (by omega)
      rwa [pow_int] at this
    have e6 : bits .andNot .u64 ((cell (turnedN cs) p &&& s : Nat) : Int) ((2 : Int) ^ p) = ((diff (cell (turnedN cs) p &&& s) (2 ^ p) : Nat) : Int) := by
      have := u64_andNot (cell (turnedN cs) p &&& s) (2 ^ p) (by omega) (by omega)
      rwa [pow_int] at this
    have x0 : (0 : Int) ≤ (x : Int) := by omega
    have x1 : (x : Int) < 6 := by omega
    have hyes : looseAt cs s p x = true → looseB cs s p = true := fun h => List.any_eq_true.2 ⟨x, hpx.subset (by simp), h⟩
    have HY := Lib.hid hyes
    have H1 := Lib.hid h1
    have H2 := Lib.hid h2
    have H3 := Lib.hid h3
    have H4 := Lib.hid h4
    have H5 := Lib.hid h5
    have H6 := Lib.hid h6
    have H7 := Lib.hid h7
    have HLA := Lib.hid (looseAt_two cs s p x)
    clear h1 h2 h3 h4 h5 h6 h7 hpx hxb hyes
    by_cases t1 : diff (cell cs p &&& s) (2 ^ p) = cell cs x &&& s
    · have g1 := eqInt t1
      have HT1 : Hid (looseB cs s p = true) := Lib.hid (HY.out (by rw [HLA.out]; unfold loose1; rw [decide_eq_true t1]; rfl))
      clear t1
      gi_wp2_with fail
      refine region_quiet_round (by kernel_rfl) (by kernel_rfl) (by kernel_rfl) ?_
      repeat (gi_big_quiet_step (fail))
      refine wpQuietIn_nil ?_
      intro _ hw'
      obtain ⟨nq, hw''⟩ := hw'
      subst hw''
      gi_wp2_with fail
      exact ⟨(keeps_drewN _ W _).trans (keeps_set _ _ _ _ _), SameAt.setCell (heap_drewN _ _ _) (by omega) _, rfl, set_same ((heap_drewN _ _ _).trans H4.out), (below_to H6.out H6.out.size (below_drewN _ _)).setCell (p := ⟨w.heap.size + 1 + 1 + 1, 0, none⟩) (by simp <;> omega) _, HT1.out⟩
    · have g1 := neInt t1
      have HN1 : Hid (loose1 cs s p x = false) := Lib.hid (decide_eq_false t1)
      clear t1
      by_cases t2 : diff (cell (turnedN cs) p &&& s) (2 ^ p) = cell (turnedN cs) x &&& s
      · have g2 := eqInt t2
        have HT1 : Hid (looseB cs s p = true) := Lib.hid (HY.out (by rw [HLA.out, HN1.out]; unfold loose1; rw [decide_eq_true t2]; rfl))
        clear t2
        gi_wp2_with fail
        refine region_quiet_round (by kernel_rfl) (by kernel_rfl) (by kernel_rfl) ?_
        repeat (gi_big_quiet_step (fail))
        refine wpQuietIn_nil ?_
        intro _ hw'
        obtain ⟨nq, hw''⟩ := hw'
        subst hw''
        gi_wp2_with fail
        exact ⟨(keeps_drewN _ W _).trans (keeps_set _ _ _ _ _), SameAt.setCell (heap_drewN _ _ _) (by omega) _, rfl, set_same ((heap_drewN _ _ _).trans H4.out), (below_to H6.out H6.out.size (below_drewN _ _)).setCell (p := ⟨w.heap.size + 1 + 1 + 1, 0, none⟩) (by simp <;> omega) _, HT1.out⟩
      · have g2 := neInt t2
        have HT1 : Hid (looseAt cs s p x = false) := Lib.hid (by rw [HLA.out, HN1.out]; unfold loose1; rw [decide_eq_false t2]; rfl)
        clear t2
        gi_wp2_with fail
        refine region_quiet_round (by kernel_rfl) (by kernel_rfl) (by kernel_rfl) ?_
        repeat (gi_big_quiet_step (fail))
        refine wpQuietIn_nil ?_
        intro _ hw'
        obtain ⟨nq, hw''⟩ := hw'
        subst hw''
        gi_wp2_with fail
        refine ⟨keeps_drewN _ W _, heap_drewN _ _ _, H1.out.drewN _, (heap_drewN _ _ _).trans H2.out, (heap_drewN _ _ _).trans H3.out, (heap_drewN _ _ _).trans H4.out, H5.out.drewN _, below_to H6.out H6.out.size (below_drewN _ _), fun q hq => ?_⟩
        rcases List.mem_append.1 hq with hq | hq
        · exact H7.out q hq
        · rw [List.mem_singleton.1 hq]; exact HT1.out
  case done =>
    rintro D W hD ⟨h1, h2, h3, h4, h5, h6, h7⟩ hK
    have hno : looseB cs s p = false := by
      rcases hl : looseB cs s p with _ | _
      · rfl
      · obtain ⟨q, hq, h⟩ := List.any_eq_true.1 hl
        rw [h7 q hq] at h; cases h
    have c3 := cell_of h4 (j := 0) rfl
    have f3 := free_of h4 0
    have HNO := Lib.hid hno
    have H4 := Lib.hid h4
    have H6 := Lib.hid h6
    clear h1 h2 h3 h4 h5 h6 h7 hno
    gi_wp2_with fail
    have hK2 : (W.setCell ⟨w.heap.size + 3, 0, none⟩ (.bool false)).heap[D]? = some (.deferred (some [])) := set_other hK (by omega)
    refine ⟨by simp, .inl ⟨_, _, rfl, run_takeDeferred hK2, ?_⟩⟩
    refine ⟨_, results_cell1 (g := w.heap.size + 3) rfl rfl (by kernel_rfl) (putObj_other (set_same H4.out) (by omega)), by rw [HNO.out], ?_⟩
    exact (H6.out.setCell (p := ⟨w.heap.size + 3, 0, none⟩) (by simp) _).trans (belowK_b (w := w) (Nat.le_refl _) _ D _ _ (by omega) hK2 rfl rfl)
  case stop =>
    rintro D c pre W hD hpre ⟨rfl, h2, h4, h5⟩ hK
    gi_wp2_with fail
    refine ⟨by simp, .inl ⟨_, _, rfl, run_takeDeferred hK, ?_⟩⟩
    refine ⟨_, results_cell1 (g := w.heap.size + 3) rfl rfl (by kernel_rfl) (putObj_other h2 (by omega)), by rw [h5], ?_⟩
    exact h4.trans (belowK_b (w := w) (Nat.le_refl _) _ D _ _ (by omega) hK rfl rfl)
end Go.Proofs.YtfhcbaamibipcaaDoor
