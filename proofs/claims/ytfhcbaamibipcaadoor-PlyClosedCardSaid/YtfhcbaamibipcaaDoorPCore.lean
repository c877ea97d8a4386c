/- ply: core. -/
import Derived.Test.YtfhcbaamibipcaaDoorPLoose
set_option linter.unusedVariables false
set_option linter.unusedSimpArgs false
namespace Go.Proofs.YtfhcbaamibipcaaDoor
open Go.RowKit Go.Shelf
attribute [local go_sem] Oper.semAt_some

theorem firstsTo_next (cs : List Nat) (k : Nat) : firstsTo cs (k + 1) = if amongB (cell cs) k (cell cs k) = true then firstsTo cs k else firstsTo cs k ||| 2 ^ k := by
  have h : ((List.range k).all fun j => decide (cell cs j ≠ cell cs k)) = !amongB (cell cs) k (cell cs k) := by
    unfold amongB
    rw [List.not_any_eq_all_not]
    congr 1
    funext j
    by_cases e : cell cs j = cell cs k <;> simp [e]
  show gather (fun p => (List.range p).all fun k => decide (cell cs k ≠ cell cs p)) k ||| (if ((List.range k).all fun j => decide (cell cs j ≠ cell cs k)) = true then 2 ^ k else 0) = _
  rw [h]
  unfold firstsTo
  cases amongB (cell cs) k (cell cs k) <;> simp

set_option maxRecDepth 100000 in
set_option maxHeartbeats 3200000 in
theorem core_any (cs : List Nat) (w : World) (hc : Codes cs) (hT : Tab w) :
    Calls Tryd.prog 20 #[spV cs] w fun e w' => e = .returned (.int .u64 (coreN cs : Nat)) ∧ Below w.heap.size w w' := by
  have hn6 := hc.2.1
  have hCODES := Lib.hid hc
  clear hc
  refine (callsIn_wide (n := 20)).1 ?_
  refine callsIn_of_wp_marks Tryd.func20 rfl trivial ?_ rfl
  simp only [Tryd.ntmps20, List.size_toArray, List.length_cons, List.length_nil, Nat.reduceAdd, Nat.reduceSub, Array.replicate_succ, Array.replicate_zero, List.push_toArray, List.append_toArray, List.nil_append, List.cons_append]
  gi_wp2_with fail
  generalize hW0 : World.alloc (World.alloc w _) _ = W0
  have hbW : Below w.heap.size w W0 := by rw [← hW0]; exact ((Below.refl _ _).alloc (Nat.le_refl _) _).alloc (by simp) _
  have hb0 : SpF W0 w.heap.size cs.length (cell cs) := by rw [← hW0]; exact alloc_old (heap_alloc_new _ _)
  have hb1 : W0.heap[w.heap.size + 1]? = some (.cells #[.int .u64 0] 32) := by rw [← hW0]; exact heap_alloc_at _ _ _ (by simp)
  clear hW0
  gi_loopw [9] (fun i wr => ∃ k : Nat, k ≤ cs.length ∧ i = .int .i64 k ∧ SpF wr w.heap.size cs.length (cell cs) ∧ wr.heap[w.heap.size + 1]? = some (.cells #[.int .u64 (firstsTo cs k : Nat)] 32) ∧ Below w.heap.size w wr) (fun i _ => cs.length - (intOf i).toNat)
  case atStart => exact ⟨0, by omega, rfl, hb0, hb1, hbW⟩
  case round =>
    obtain ⟨k, hk, rfl, s0, s1, hbr⟩ := hrel
    clear hb0 hb1 hbW
    by_cases hlt : k < cs.length
    · have q1 := s0.cell (p := k) (by omega)
      have c1 := cell_of s1 (j := 0) rfl
      have f1 := free_of s1 0
      have k0 : (0 : Int) ≤ (k : Int) := by omega
      have k00 : ¬ (k : Int) < 0 := by omega
      have k1 : (k : Int) < (cs.length : Int) := by omega
      have k6 : (k : Int) < 6 := by omega
      have k7 : (k : Int) ≤ 6 := by omega
      have hnx := firstsTo_next cs k
      have S0 := Lib.hid s0
      have S1 := Lib.hid s1
      have HB := Lib.hid hbr
      clear s0 s1 hbr
      rcases ha : amongB (cell cs) k (cell cs k) with _ | _
      · have hcall : ∀ w0, SpF w0 w.heap.size cs.length (cell cs) → Calls Tryd.prog 31 #[.slice (some ⟨w.heap.size, 1, none⟩) k 6, .int .u64 (cell cs k)] w0 fun e w' => e = .returned (.bool false) ∧ w0 = w' := fun w0 h => by
          have := containsSet_any (cell cs) k (cell cs k) w.heap.size 6 cs.length w0 (by omega) h
          rwa [ha] at this
        rw [ha, if_neg (by simp)] at hnx
        have HCALL := Lib.hid hcall
        have HNX := Lib.hid hnx
        have hft := lt64_of (n := k) (by omega) (firsts_lt cs k)
        have hsh := shl_num k (by omega)
        have hor : bits .or .u64 (firstsTo cs k : Int) ((2 : Int) ^ k) = ((firstsTo cs k ||| 2 ^ k : Nat) : Int) := by
          have := u64_or (firstsTo cs k) (2 ^ k) (by omega) (by have := pow_lt64 (p := k) (by omega); omega)
          rwa [pow_int] at this
        clear hcall ha hnx
        gi_wp2_with fail
        refine wpIn_wide.2 ?_
        go_quiet ((go_at_call 31; exact (HCALL.out _ (S0.out.drewN _)).mono (fun e w' h => ⟨h.1, _, h.2.symm⟩)))
        gi_wp2_with fail
        refine region_then 4 rfl rfl rfl (by kernel_rfl) (by kernel_rfl) (by kernel_rfl) (by kernel_rfl) (by kernel_rfl) (by kernel_rfl) ?_
        dsimp only [List.dropLast]
        repeat (gi_big_quiet_step (fail))
        refine wpQuietIn_nil ?_
        intro _ hw'
        obtain ⟨nq2, hw''⟩ := hw'
        subst hw''
        go_simp
        go_at_K
        gi_wp2_with fail
        go_roundw
        case rel =>
          refine ⟨k + 1, by omega, by go_num, (S0.out.drewN _).other (by omega), ?_, (below_to HB.out HB.out.size (below_drewN _ _)).setCell (p := ⟨w.heap.size + 1, 0, none⟩) (by simp) _⟩
          rw [HNX.out]; exact set_same ((heap_drewN _ _ _).trans S1.out)
        case measure => simp [intOf]; omega
      · have hcall : ∀ w0, SpF w0 w.heap.size cs.length (cell cs) → Calls Tryd.prog 31 #[.slice (some ⟨w.heap.size, 1, none⟩) k 6, .int .u64 (cell cs k)] w0 fun e w' => e = .returned (.bool true) ∧ w0 = w' := fun w0 h => by
          have := containsSet_any (cell cs) k (cell cs k) w.heap.size 6 cs.length w0 (by omega) h
          rwa [ha] at this
        rw [ha, if_pos rfl] at hnx
        have HCALL := Lib.hid hcall
        have HNX := Lib.hid hnx
        clear hcall ha hnx
        gi_wp2_with fail
        refine wpIn_wide.2 ?_
        go_quiet ((go_at_call 31; exact (HCALL.out _ (S0.out.drewN _)).mono (fun e w' h => ⟨h.1, _, h.2.symm⟩)))
        gi_wp2_with fail
        go_roundw
        case rel => exact ⟨k + 1, by omega, by go_num, S0.out.drewN _, by rw [HNX.out]; exact (heap_drewN _ _ _).trans S1.out, below_to HB.out HB.out.size (below_drewN _ _)⟩
        case measure => simp [intOf]; omega
    · have hkn : k = cs.length := by omega
      have hfn : firstsTo cs k = firstsN cs := by rw [hkn]; rfl
      rw [hfn] at s1
      have hfl : firstsN cs < 2 ^ cs.length := firsts_lt cs _
      clear hfn
      gi_wp2_with fail
      refine wpIn_loop (fun a' w' => ∃ (s : Nat) (u2 u4 u5 u6 u7 u8 u9 u10 u11 u12 u13 u14 u15 u16 u17 u18 u19 u20 u21 u22 u23 u24 u25 u26 u27 u28 u29 u30 u31 u32 u33 u34 u35 u36 u37 u38 u39 u40 : Value) (ds : List Deferred), s < 2 ^ cs.length ∧ coreOf cs s = coreN cs ∧ SpF w' w.heap.size cs.length (cell cs) ∧ w'.heap[w.heap.size + 1]? = some (.cells #[.int .u64 (s : Nat)] 32) ∧ Below w.heap.size w w' ∧ Marks w.heap.size w'.heap.size ds w' ∧ a' = { tmps := #[spV cs, .pointer (some ⟨w.heap.size, 0, none⟩), u2, .pointer (some ⟨w.heap.size + 1, 0, none⟩), u4, u5, u6, u7, u8, u9, u10, u11, u12, u13, u14, u15, u16, u17, u18, u19, u20, u21, u22, u23, u24, u25, u26, u27, u28, u29, u30, u31, u32, u33, u34, u35, u36, u37, u38, u39, u40], defers := ds }) (fun _ w' => match w'.cell? ⟨w.heap.size + 1, 0, none⟩ with | some (.int _ c) => c.toNat | _ => 0) ⟨firstsN cs, _, _, _, _, _, _, _, _, _, _, _, _, _, _, _, _, _, _, _, _, _, _, _, _, _, _, _, _, _, _, _, _, _, _, _, _, _, _, [], hfl, rfl, s0, s1, hbr, trivial, rfl⟩ ?_
      rintro a' W ⟨s, u2, u4, u5, u6, u7, u8, u9, u10, u11, u12, u13, u14, u15, u16, u17, u18, u19, u20, u21, u22, u23, u24, u25, u26, u27, u28, u29, u30, u31, u32, u33, u34, u35, u36, u37, u38, u39, u40, ds, hs, hco, z0, z1, hbz, hmk, rfl⟩
      have h64 := lt64_of hn6 hs
      have c1 := cell_of z1 (j := 0) rfl
      have hb2 : w.heap.size + 2 ≤ W.heap.size := by have := heap_lt z1; omega
      have hal : Below W.heap.size W (W.alloc (.cells #[.int .i64 (-1)] 3)) := (Below.refl _ _).alloc (Nat.le_refl _) _
      have y0 := heap_alloc_new W (.cells #[.int .i64 (-1)] 3)
      have z0' := z0.below hal
      have z1' := (hal.block _ (heap_lt z1)).trans z1
      have hbz' := below_to hbz hbz.size hal
      have hmk' := hmk.below hal
      have hszA : (W.alloc (.cells #[.int .i64 (-1)] 3)).heap.size = W.heap.size + 1 := by simp
      have c1' := cell_of z1' (j := 0) rfl
      have HCO := Lib.hid hco
      have HC0 := Lib.hid c1
      clear z0 z1 hbz hmk c1 hal hco s0 s1 hbr
      gi_wp2_with fail
      generalize hWA : World.alloc W _ = WA at *
      generalize hB : W.heap.size = B at *
      clear hWA hB
      refine ⟨trivial, (callsIn_wide.2 (points_any s _)).mono ?_⟩
      rintro e w1 ⟨rfl, rfl⟩
      have hal : Below WA.heap.size WA (WA.alloc (.cells #[.int .u64 (s : Nat)] 32)) := (Below.refl _ _).alloc (Nat.le_refl _) _
      have hBs := heap_alloc_new WA (.cells #[.int .u64 (s : Nat)] 32)
      have x0 := z0'.below hal
      have x1 := (hal.block _ (heap_lt z1')).trans z1'
      have x2 := (hal.block _ (heap_lt y0)).trans y0
      have xb := below_to hbz' hbz'.size hal
      have xm := hmk'.below hal
      have hszB : (WA.alloc (.cells #[.int .u64 (s : Nat)] 32)).heap.size = B + 2 := by simp [hszA]
      rw [hszA] at hBs ⊢
      generalize hWB : World.alloc WA _ = WB at *
      have HB2 := Lib.hid hb2
      clear hWB hal z0' z1' y0 hbz' hmk' hszA c1'
      gi_wp2_with fail
      have hb2 := HB2.out
      refine range_pts (gf := 37) (Bs := B + 1) (s := s) rfl (enters_of Tryd.func37 (by kernel_rfl) rfl)
        (points_given s (B + 1) h64 19 (by omega) WB (by omega)) hBs rfl
        (fun pre W => SpF W w.heap.size cs.length (cell cs) ∧ W.heap[w.heap.size + 1]? = some (.cells #[.int .u64 (s : Nat)] 32) ∧ W.heap[B]? = some (.cells #[.int .i64 (-1)] 3) ∧ Below w.heap.size w W ∧ Marks w.heap.size B ds W ∧ B + 2 ≤ W.heap.size ∧ ∀ q ∈ pre, looseB cs s q = false)
        (fun c pre W => c = .exit 4 ∧ SpF W w.heap.size cs.length (cell cs) ∧ W.heap[w.heap.size + 1]? = some (.cells #[.int .u64 (s : Nat)] 32) ∧ (∃ x : Nat, x < 6 ∧ W.heap[B]? = some (.cells #[.int .i64 x] 3) ∧ firstLoose cs s = some x) ∧ Below w.heap.size w W ∧ Marks w.heap.size B ds W) ?a1 ?hI ?hIx ?hIB (fun pre W h => hT.below h.2.2.2.1) ⟨x0, x1, x2, xb, xm, by omega, by simp⟩ ?assign ?body ?done ?stop
      case assign =>
        intro l x W K hK
        gi_wp2
        exact hK
      case hI =>
        rintro s W W' row ⟨h1, h2, h3, h4, h5, h7, h6⟩ hg hr
        exact ⟨own_block hg hr (by omega) h1, own_block hg hr (by omega) h2, own_block hg hr (by omega) h3, h4.grown hg h4.size (fun k e => by have := (hr k e).1; omega), h5.grown hg (fun k e => by have := (hr k e).1; omega), Nat.le_trans h7 hg.size, h6⟩
      case hIx =>
        rintro c s W W' row ⟨h0, h1, h2, ⟨x, hx, h3, h3'⟩, h4, h5⟩ hg hr
        exact ⟨h0, own_block hg hr (by omega) h1, own_block hg hr (by omega) h2, ⟨x, hx, own_block hg hr (by omega) h3, h3'⟩, h4.grown hg h4.size (fun k e => by have := (hr k e).1; omega), h5.grown hg (fun k e => by have := (hr k e).1; omega)⟩
      case hIB =>
        rintro s W v ⟨h1, h2, h3, h4, h5, h7, h6⟩
        exact ⟨h1.other (by omega), set_other h2 (by omega), set_other h3 (by omega), h4.setCell (p := ⟨B + 1, 0, none⟩) (by simp; omega) _, h5.setCell _ _ _, by simpa using h7, h6⟩
      case body =>
        rintro l pre x W hl ⟨h1, h2, h3, h4, h5, h7, h6⟩ hpx
        obtain ⟨hxb, hx6⟩ := pre_bit h64 hpx
        obtain ⟨d0, d1, d2, d3, d4, d5, d6⟩ := h1.cells
        have c2 := cell_of h2 (j := 0) rfl
        have c3 := cell_of h3 (j := 0) rfl
        have f3 := free_of h3 0
        have hTW := hT.below h4
        have HPX := Lib.hid hpx
        have H1 := Lib.hid h1
        have H2 := Lib.hid h2
        have H3 := Lib.hid h3
        have H4 := Lib.hid h4
        have H5 := Lib.hid h5
        have H6 := Lib.hid h6
        have HTW := Lib.hid hTW
        have HW : Hid (B + 2 ≤ W.heap.size) := Lib.hid h7
        clear h1 h2 h3 h4 h5 h6 hpx hxb hTW
        gi_wp2_with fail
        refine ⟨trivial, (callsIn_wide.2 (loose_any cs s x _ hCODES.out hs hx6 HTW.out)).mono ?_⟩
        rintro e w2 ⟨rfl, hb3⟩
        have r1 := H1.out.below hb3
        have r2 := (hb3.block _ (heap_lt H2.out)).trans H2.out
        have r3 := (hb3.block _ (heap_lt H3.out)).trans H3.out
        have r4 := below_to H4.out H4.out.size hb3
        have r5 := H5.out.below hb3
        have hBs2 : SameAt (B + 1) W w2 := hb3.block _ (by have := HW.out; omega)
        have hkf : KeepsFrom WB.heap.size W w2 := ⟨hb3.size, fun k o _ hk _ => (hb3.block k (heap_lt hk)).trans hk⟩
        rcases hl2 : looseB cs s x with _ | _
        · have HL := Lib.hid hl2
          clear hl2 d0 d1 d2 d3 d4 d5 d6 c2 c3 f3
          gi_wp2_with fail
          refine ⟨hkf, hBs2, r1, r2, r3, r4, r5, Nat.le_trans HW.out hb3.size, fun q hq => ?_⟩
          rcases List.mem_append.1 hq with hq | hq
          · exact H6.out q hq
          · rw [List.mem_singleton.1 hq]; exact HL.out
        · have hfl2 : firstLoose cs s = some x := by
            unfold firstLoose
            obtain ⟨rest, hrest⟩ := HPX.out
            rw [← hrest, List.append_assoc, List.find?_append, List.find?_eq_none.2 (fun q hq => by rw [H6.out q hq]; simp)]
            simp [hl2]
          have HFL := Lib.hid hfl2
          have R1 := Lib.hid r1
          have R2 := Lib.hid r2
          have R3 := Lib.hid r3
          have R4 := Lib.hid r4
          have R5 := Lib.hid r5
          have c3' := cell_of r3 (j := 0) rfl
          have f3' := free_of r3 0
          clear hl2 hfl2 d0 d1 d2 d3 d4 d5 d6 c2 c3 f3 r1 r2 r3 r4 r5
          gi_wp2_with fail
          exact ⟨hkf.trans (keeps_set _ _ _ _ _), SameAt.setCell hBs2 (by omega) _, rfl, R1.out.other (by omega), set_other R2.out (by omega), ⟨x, hx6, set_same R3.out, HFL.out⟩, R4.out.setCell (p := ⟨B, 0, none⟩) (by simp; omega) _, R5.out.setCell _ _ _⟩
      case done =>
        rintro D W hD ⟨h1, h2, h3, h4, h5, h7, h6⟩ hK
        have hnone : firstLoose cs s = none := List.find?_eq_none.2 (fun q hq => by rw [h6 q hq]; simp)
        have hfin : s = coreN cs := by rw [← HCO.out]; exact (core_none hnone).symm
        have c2 := cell_of h2 (j := 0) rfl
        have c3 := cell_of h3 (j := 0) rfl
        have hm2 := h5.add (D := D) (by omega) (by omega) hK
        have HF := Lib.hid hfin
        have H4 := Lib.hid h4
        have HM := Lib.hid hm2
        clear h1 h2 h3 h4 h5 h6 hnone hfin hm2
        gi_wp2_with fail
        refine leave_marks _ _ _ HM.out fun w' hs => ?_
        exact ⟨_, results_tmp rfl _ _ _, by rw [← HF.out]; rfl, H4.out.trans hs.below⟩
      case stop =>
        rintro D c pre W hD hpre ⟨rfl, h1, h2, ⟨x, hx6, h3, hfl2⟩, h4, h5⟩ hK
        have c2 := cell_of h2 (j := 0) rfl
        have c3 := cell_of h3 (j := 0) rfl
        have f2 := free_of h2 0
        have hm2 := h5.add (D := D) (by omega) (by omega) hK
        have hm3 : Marks w.heap.size W.heap.size ({ target := .collected D, args := #[] } :: ds) W := hm2.mono (by have := heap_lt hK; omega)
        have hsh := shl_num x hx6
        have hpw := pow_lt64 hx6
        have hdf : bits .andNot .u64 (s : Int) ((2 : Int) ^ x) = ((diff s (2 ^ x) : Nat) : Int) := by
          have := u64_andNot s (2 ^ x) (by omega) (by omega)
          rwa [pow_int] at this
        have hlt := diff_lt_self (firstLoose_bit h64 hfl2).1
        have x0' : (0 : Int) ≤ (x : Int) := by omega
        have x00 : ¬ (x : Int) < 0 := by omega
        have x6 : (x : Int) < 6 := by omega
        have HC2 : Hid (coreOf cs (diff s (2 ^ x)) = coreN cs) := Lib.hid (by rw [← core_some h64 hfl2]; exact HCO.out)
        have HLT := Lib.hid hlt
        have HDS : Hid (diff s (2 ^ x) < 2 ^ cs.length) := Lib.hid (diff_lt hs)
        have H1 := Lib.hid h1
        have H2 := Lib.hid h2
        have H4 := Lib.hid h4
        have HM := Lib.hid hm3
        clear h1 h2 h3 h4 h5 hfl2 hm2 hm3 hlt
        gi_wp2_with fail
        refine region_then 4 rfl rfl rfl (by kernel_rfl) (by kernel_rfl) (by kernel_rfl) (by kernel_rfl) (by kernel_rfl) (by kernel_rfl) ?_
        dsimp only [List.dropLast]
        repeat (gi_big_quiet_step (fail))
        refine wpQuietIn_nil ?_
        intro _ hw'
        obtain ⟨nq2, hw''⟩ := hw'
        subst hw''
        go_simp
        refine ⟨⟨diff s (2 ^ x), _, _, _, _, _, _, _, _, _, _, _, _, _, _, _, _, _, _, _, _, _, _, _, _, _, _, _, _, _, _, _, _, _, _, _, _, _, _, _, HDS.out, HC2.out, (H1.out.drewN _).other (by omega), set_same ((heap_drewN _ _ _).trans H2.out), (below_to H4.out H4.out.size (below_drewN _ _)).setCell (p := ⟨w.heap.size + 1, 0, none⟩) (by simp) _, (HM.out.below (below_drewN _ _)).setCell _ _ _ |>.mono (by simp [size_drewN]), rfl⟩, ?_⟩
        rw [cell_of (set_same ((heap_drewN _ _ _).trans H2.out)) (j := 0) rfl, HC0.out]
        have := HLT.out
        simp
        omega
end Go.Proofs.YtfhcbaamibipcaaDoor
