/- ply: isSpace. -/
import Derived.Test.YtfhcbaamibipcaaDoorPIns
set_option linter.unusedVariables false
set_option linter.unusedSimpArgs false
namespace Go.Proofs.YtfhcbaamibipcaaDoor
open Go.RowKit Go.Shelf
attribute [local go_sem] Oper.semAt_some

set_option maxRecDepth 100000 in
set_option maxHeartbeats 1600000 in
theorem isSpace_any (cs : List Nat) (w : World) (hc : Codes cs) (hT : Tab w) :
    Calls Tryd.prog 27 #[spV cs] w fun e w' => e = .returned (.bool (spaceB cs)) ∧ Below w.heap.size w w' := by
  have hc64 := cell_64 hc
  have HC := Lib.hid hc64
  have HCN := Lib.hid hc.2.2
  have hn6 := hc.2.1
  clear hc64 hc
  refine (callsIn_wide (n := 20)).1 ?_
  refine callsIn_of_wp_marks Tryd.func27 rfl trivial ?_ rfl
  simp only [Tryd.ntmps27, List.size_toArray, List.length_cons, List.length_nil, Nat.reduceAdd, Nat.reduceSub, Array.replicate_succ, Array.replicate_zero, List.push_toArray, List.append_toArray, List.nil_append, List.cons_append]
  gi_wp2_with fail
  generalize hW0 : World.alloc (World.alloc w _) _ = W0
  have hsz : W0.heap.size = w.heap.size + 2 := by rw [← hW0]; simp
  have hbW : Below w.heap.size w W0 := by rw [← hW0]; exact ((Below.refl _ _).alloc (Nat.le_refl _) _).alloc (by simp) _
  have hb0 : SpF W0 w.heap.size cs.length (cell cs) := by rw [← hW0]; exact alloc_old (heap_alloc_new _ _)
  have hb1 : W0.heap[w.heap.size + 1]? = some (.cells #[.bool false] 4) := by rw [← hW0]; exact heap_alloc_at _ _ _ (by simp)
  clear hW0
  refine wpIn_loop (fun a' w' => ∃ (k : Nat) (u3 u4 u8 u9 u10 u11 u12 u13 u14 u15 u16 u17 u18 u19 u20 u21 u22 u23 u24 u25 u26 u27 u28 u29 u30 u31 u32 u33 : Value) (ds : List Deferred), k ≤ cs.length ∧ (∀ p, p < k → (cell cs p).testBit p = true ∧ ∀ q, q < cs.length → (cell cs p).testBit q = true → subB (cell cs q) (cell cs p) = true) ∧ SpF w' w.heap.size cs.length (cell cs) ∧ w'.heap[w.heap.size + 1]? = some (.cells #[.bool false] 4) ∧ Below w.heap.size w w' ∧ Marks w.heap.size w'.heap.size ds w' ∧ a' = { tmps := #[spV cs, .pointer (some ⟨w.heap.size, 0, none⟩), .pointer (some ⟨w.heap.size + 1, 0, none⟩), u3, u4, .pointer (some ⟨w.heap.size, 0, none⟩), .int .i64 cs.length, .int .i64 k, u8, u9, u10, u11, u12, u13, u14, u15, u16, u17, u18, u19, u20, u21, u22, u23, u24, u25, u26, u27, u28, u29, u30, u31, u32, u33], defers := ds }) (fun a' _ => cs.length - (intOf (a'.tmps.getD 7 undef)).toNat) ⟨0, undef, undef, undef, undef, undef, undef, undef, undef, undef, undef, undef, undef, undef, undef, undef, undef, undef, undef, undef, undef, undef, undef, undef, undef, undef, undef, undef, undef, [], by omega, fun p hp => absurd hp (by omega), hb0, hb1, hbW, trivial, rfl⟩ ?_
  rintro a' W ⟨k, u3, u4, u8, u9, u10, u11, u12, u13, u14, u15, u16, u17, u18, u19, u20, u21, u22, u23, u24, u25, u26, u27, u28, u29, u30, u31, u32, u33, ds, hk, hok, s0, s1, hbw, hmk, rfl⟩
  have HOK := Lib.hid hok
  clear hok
  by_cases hlt : k < cs.length
  · have k0 : (0 : Int) ≤ (k : Int) := by omega
    have k1 : (k : Int) < (cs.length : Int) := by omega
    have k6 : (k : Int) < 6 := by omega
    have hc1 := HC.out k
    have hal : Below W.heap.size W (W.alloc (.cells #[.int .i64 k] 3)) := (Below.refl _ _).alloc (Nat.le_refl _) _
    have hp0 := heap_alloc_new W (.cells #[.int .i64 k] 3)
    have s0' := s0.below hal
    have s1' := (hal.block _ (heap_lt s1)).trans s1
    have hbw' := below_to hbw hbw.size hal
    have hmk' := hmk.below hal
    have hsz1 : (W.alloc (.cells #[.int .i64 k] 3)).heap.size = W.heap.size + 1 := by simp
    have hbs : w.heap.size + 2 ≤ W.heap.size := by have := heap_lt s1; omega
    clear s0 s1 hbw hmk hal
    gi_wp2_with fail
    generalize hW1 : World.alloc W _ = W1 at *
    generalize hB : W.heap.size = B at *
    clear hW1 hB
    have HBS := Lib.hid hbs
    have q1 := s0'.cell (p := k) (by omega)
    have c0 := cell_of hp0 (j := 0) rfl
    rcases hbit : (cell cs k).testBit k with _ | _
    · have hh : ∀ w0, Calls Tryd.prog 36 #[.int .u64 (cell cs k), .int .i64 k] w0 fun e w' => e = .returned (.bool false) ∧ w0 = w' := fun w0 => by
        have := has_any (cell cs k) k w0 hc1 (by omega)
        rwa [hbit] at this
      have hhas := Lib.hid hh
      clear hh
      have hno : spaceB cs = false := by
        rcases hs : spaceB cs with _ | _
        · rfl
        · have := (space_iff.1 hs k hlt).1; rw [hbit] at this; cases this
      have HNO := Lib.hid hno
      have S1 := Lib.hid s1'
      have HBW := Lib.hid hbw'
      have HMK := Lib.hid hmk'
      have c1 := cell_of s1' (j := 0) rfl
      have f1 := free_of s1' 0
      clear hbit hno hbw' hmk' s1'
      refine wpIn_wide.2 ?_
      go_quiet ((go_at_call 36; exact (hhas.out _).mono (fun e w' h => ⟨h.1, _, h.2.symm⟩)))
      gi_wp2_with fail
      refine leave_marks ds B _ ((HMK.out.below (below_drewN _ _)).setCell _ _ _) fun w' hs => ?_
      have hs1 := (heap_drewN W1 nq (w.heap.size + 1)).trans S1.out
      refine ⟨_, results_cell1 (g := w.heap.size + 1) rfl rfl (by kernel_rfl) (hs.keep _ _ _ _ (set_same hs1)), by rw [HNO.out], ?_⟩
      exact ((below_to HBW.out HBW.out.size (below_drewN _ _)).setCell (p := ⟨w.heap.size + 1, 0, none⟩) (by simp) _).trans hs.below
    · have hh : ∀ w0, Calls Tryd.prog 36 #[.int .u64 (cell cs k), .int .i64 k] w0 fun e w' => e = .returned (.bool true) ∧ w0 = w' := fun w0 => by
        have := has_any (cell cs k) k w0 hc1 (by omega)
        rwa [hbit] at this
      have hhas := Lib.hid hh
      have HBIT := Lib.hid hbit
      clear hh hbit
      refine wpIn_wide.2 ?_
      go_quiet ((go_at_call 36; exact (hhas.out _).mono (fun e w' h => ⟨h.1, _, h.2.symm⟩)))
      gi_wp2_with fail
      have s0n := s0'.drewN nq
      have s1n := (heap_drewN W1 nq (w.heap.size + 1)).trans s1'
      have p0n := (heap_drewN W1 nq B).trans hp0
      have hbn := below_to hbw' hbw'.size (below_drewN W1 nq)
      have hmn := hmk'.below (below_drewN W1 nq)
      have hszn := size_drewN W1 nq
      rw [hsz1] at hszn
      generalize hW2 : W1.drewN nq = W2 at *
      clear hW2 s0' s1' hp0 hbw' hmk' q1 c0
      have q2 := s0n.cell (p := k) (by omega)
      have c2 := cell_of p0n (j := 0) rfl
      gi_wp2_with fail
      refine ⟨trivial, (callsIn_wide.2 (points_any (cell cs k) _)).mono ?_⟩
      rintro e w1 ⟨rfl, rfl⟩
      have hal : Below W2.heap.size W2 (W2.alloc (.cells #[.int .u64 (cell cs k)] 32)) := (Below.refl _ _).alloc (Nat.le_refl _) _
      have hBs := heap_alloc_new W2 (.cells #[.int .u64 (cell cs k)] 32)
      have s0p := s0n.below hal
      have s1p := (hal.block _ (heap_lt s1n)).trans s1n
      have p0p := (hal.block _ (heap_lt p0n)).trans p0n
      have hbp := below_to hbn hbn.size hal
      have hmp := hmn.below hal
      have hsz3 : (W2.alloc (.cells #[.int .u64 (cell cs k)] 32)).heap.size = B + 2 := by simp [hszn]
      rw [hszn] at hBs ⊢
      gi_wp2_with fail
      generalize hW3 : World.alloc W2 _ = W3 at *
      clear hW3 s0n s1n p0n hbn hmn hal hszn q2 c2
      have hbs := HBS.out
      refine range_pts (gf := 37) (Bs := B + 1) (s := cell cs k) rfl (enters_of Tryd.func37 (by kernel_rfl) rfl)
        (points_given (cell cs k) (B + 1) hc1 19 (by omega) W3 (by omega)) hBs rfl
        (fun pre W => SpF W w.heap.size cs.length (cell cs) ∧ W.heap[w.heap.size + 1]? = some (.cells #[.bool false] 4) ∧ W.heap[B]? = some (.cells #[.int .i64 k] 3) ∧ Below w.heap.size w W ∧ Marks w.heap.size B ds W ∧ ∀ q ∈ pre, subB (cell cs q) (cell cs k) = true)
        (fun c pre W => c = .ret ∧ W.heap[w.heap.size + 1]? = some (.cells #[.bool false] 4) ∧ Below w.heap.size w W ∧ Marks w.heap.size B ds W ∧ spaceB cs = false) ?a1 ?hI ?hIx ?hIB (fun pre W h => hT.below h.2.2.2.1) ⟨s0p, s1p, p0p, hbp, hmp, by simp⟩ ?assign ?body ?done ?stop
      case assign =>
        intro l x W K hK
        gi_wp2
        exact hK
      case hI =>
        rintro s W W' row ⟨h1, h2, h3, h4, h5, h6⟩ hg hr
        exact ⟨own_block hg hr (by omega) h1, own_block hg hr (by omega) h2, own_block hg hr (by omega) h3, h4.grown hg h4.size (fun k e => by have := (hr k e).1; omega), h5.grown hg (fun k e => by have := (hr k e).1; omega), h6⟩
      case hIx =>
        rintro c s W W' row ⟨h1, h2, h4, h5, h6⟩ hg hr
        exact ⟨h1, own_block hg hr (by omega) h2, h4.grown hg h4.size (fun k e => by have := (hr k e).1; omega), h5.grown hg (fun k e => by have := (hr k e).1; omega), h6⟩
      case hIB =>
        rintro s W v ⟨h1, h2, h3, h4, h5, h6⟩
        exact ⟨h1.other (by omega), set_other h2 (by omega), set_other h3 (by omega), h4.setCell (p := ⟨B + 1, 0, none⟩) (by simp; omega) _, h5.setCell _ _ _, h6⟩
      case body =>
        rintro l pre x W hl ⟨h1, h2, h3, h4, h5, h6⟩ hpx
        obtain ⟨hxb, hx6⟩ := pre_bit hc1 hpx
        have q1 := h1.cell hx6
        have q2 := h1.cell (p := k) (by omega)
        have c2 := cell_of h3 (j := 0) rfl
        have c1 := cell_of h2 (j := 0) rfl
        have f1 := free_of h2 0
        have hcx := HC.out x
        have hand := u64_andNot (cell cs x) (cell cs k) (by omega) (by omega)
        have x0 : (0 : Int) ≤ (x : Int) := by omega
        have x1 : (x : Int) < 6 := by omega
        have hxn : x < cs.length := set_lt (HCN.out k) hxb
        by_cases hsub : subB (cell cs x) (cell cs k) = true
        · have hz2 : ((diff (cell cs x) (cell cs k) : Nat) : Int) = 0 := by
            unfold subB at hsub
            rw [decide_eq_true_eq] at hsub
            rw [hsub]; rfl
          have H1 := Lib.hid h1
          have H2 := Lib.hid h2
          have H3 := Lib.hid h3
          have H4 := Lib.hid h4
          have H5 := Lib.hid h5
          have H6 := Lib.hid h6
          have HS := Lib.hid hsub
          clear h1 h2 h3 h4 h5 h6 hsub hpx hxb
          gi_wp2_with fail
          refine region_quiet_round (by kernel_rfl) (by kernel_rfl) (by kernel_rfl) ?_
          repeat (gi_big_quiet_step (fail))
          refine wpQuietIn_nil ?_
          intro _ hw'
          obtain ⟨nq, hw''⟩ := hw'
          subst hw''
          gi_wp2_with fail
          refine ⟨keeps_drewN _ W _, heap_drewN _ _ _, H1.out.drewN _, (heap_drewN _ _ _).trans H2.out, (heap_drewN _ _ _).trans H3.out, below_to H4.out H4.out.size (below_drewN _ _), H5.out.below (below_drewN _ _), fun q hq => ?_⟩
          rcases List.mem_append.1 hq with hq | hq
          · exact H6.out q hq
          · rw [List.mem_singleton.1 hq]; exact HS.out
        · have hz2 : ¬ ((diff (cell cs x) (cell cs k) : Nat) : Int) = 0 := fun e => by
            apply hsub
            unfold subB
            rw [decide_eq_true_eq]
            omega
          have hno : spaceB cs = false := by
            rcases hs : spaceB cs with _ | _
            · rfl
            · exact absurd ((space_iff.1 hs k hlt).2 x hxn hxb) hsub
          have H2 := Lib.hid h2
          have H4 := Lib.hid h4
          have H5 := Lib.hid h5
          have HNO := Lib.hid hno
          clear h1 h2 h3 h4 h5 h6 hsub hpx hxb hno
          gi_wp2_with fail
          refine region_quiet_round (by kernel_rfl) (by kernel_rfl) (by kernel_rfl) ?_
          repeat (gi_big_quiet_step (fail))
          refine wpQuietIn_nil ?_
          intro _ hw'
          obtain ⟨nq, hw''⟩ := hw'
          subst hw''
          gi_wp2_with fail
          refine ⟨(keeps_drewN _ W _).trans (keeps_set _ _ _ _ _), SameAt.setCell (heap_drewN _ _ _) (by omega) _, rfl, set_same ((heap_drewN _ _ _).trans H2.out), (below_to H4.out H4.out.size (below_drewN _ _)).setCell (p := ⟨w.heap.size + 1, 0, none⟩) (by simp) _, (H5.out.below (below_drewN _ _)).setCell _ _ _, HNO.out⟩
      case done =>
        rintro D W hD ⟨h1, h2, h3, h4, h5, h6⟩ hK
        have HOK2 : Hid (∀ p, p < k + 1 → (cell cs p).testBit p = true ∧ ∀ q, q < cs.length → (cell cs p).testBit q = true → subB (cell cs q) (cell cs p) = true) := Lib.hid (fun p hp => by
          by_cases e : p = k
          · subst e
            exact ⟨HBIT.out, fun q _ hb => h6 q ((bitsOf_mem hc1).2 hb)⟩
          · exact HOK.out p (by omega))
        have hm2 := h5.add (D := D) (by omega) (by omega) hK
        have hm3 : Marks w.heap.size W.heap.size ({ target := .collected D, args := #[] } :: ds) W := hm2.mono (by have := heap_lt hK; omega)
        have H1 := Lib.hid h1
        have H2 := Lib.hid h2
        have H4 := Lib.hid h4
        have H5 := Lib.hid hm3
        clear h1 h2 h3 h4 h5 h6 hm2 hm3
        gi_wp2_with fail
        refine ⟨⟨k + 1, _, _, _, _, _, _, _, _, _, _, _, _, _, _, _, _, _, _, _, _, _, _, _, _, _, _, _, _, _, by omega, HOK2.out, H1.out, H2.out, H4.out, H5.out, by go_num⟩, ?_⟩
        simp [intOf]; omega
      case stop =>
        rintro D c pre W hD hpre ⟨rfl, h2, h4, h5, h6⟩ hK
        have hm2 := h5.add (D := D) (by omega) (by omega) hK
        gi_wp2_with fail
        refine leave_marks _ _ _ hm2 fun w' hs => ?_
        refine ⟨_, results_cell1 (g := w.heap.size + 1) rfl rfl (by kernel_rfl) (hs.keep _ _ _ _ h2), by rw [h6], ?_⟩
        exact h4.trans hs.below
  · have hks : k = cs.length := by omega
    have hyes : spaceB cs = true := space_iff.2 fun p hp => HOK.out p (by omega)
    have c1 := cell_of s1 (j := 0) rfl
    have f1 := free_of s1 0
    have HY := Lib.hid hyes
    have S1 := Lib.hid s1
    have HB := Lib.hid hbw
    have HM := Lib.hid hmk
    clear hyes s0 s1 hbw hmk
    gi_wp2_with fail
    refine leave_marks _ _ _ (HM.out.setCell _ _ _) fun w' hs => ?_
    refine ⟨_, results_cell1 (g := w.heap.size + 1) rfl rfl (by kernel_rfl) (hs.keep _ _ _ _ (set_same S1.out)), by rw [HY.out], ?_⟩
    exact (HB.out.setCell (p := ⟨w.heap.size + 1, 0, none⟩) (by simp) _).trans hs.below
end Go.Proofs.YtfhcbaamibipcaaDoor
