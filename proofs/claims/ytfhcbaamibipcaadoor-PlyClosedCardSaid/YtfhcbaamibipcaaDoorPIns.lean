/- ply: inside. -/
import Derived.Test.YtfhcbaamibipcaaDoorPNew
import Derived.Test.YtfhcbaamibipcaaDoorMarks
import Derived.Test.YtfhcbaamibipcaaDoorRound
set_option linter.unusedVariables false
set_option linter.unusedSimpArgs false
namespace Go.Proofs.YtfhcbaamibipcaaDoor
open Go.RowKit Go.Shelf
attribute [local go_sem] Oper.semAt_some

/-- the points so far whose cells lie in the set -/
def insTo (cs : List Nat) (s : Nat) (pre : List Nat) : Nat := pre.foldl (fun o p => if subB (cell cs p) s = true then o ||| 2 ^ p else o) 0
theorem insTo_snoc (cs : List Nat) (s : Nat) (pre : List Nat) (p : Nat) : insTo cs s (pre ++ [p]) = if subB (cell cs p) s = true then insTo cs s pre ||| 2 ^ p else insTo cs s pre := by
  unfold insTo; rw [List.foldl_append]; rfl
theorem insTo_bit (cs : List Nat) (s i : Nat) : ∀ (pre : List Nat) (o : Nat), (pre.foldl (fun o p => if subB (cell cs p) s = true then o ||| 2 ^ p else o) o).testBit i = true ↔ o.testBit i = true ∨ (i ∈ pre ∧ subB (cell cs i) s = true)
  | [], o => by simp
  | p :: pre, o => by
    rw [List.foldl_cons, insTo_bit cs s i pre]
    by_cases h : subB (cell cs p) s = true
    · rw [if_pos h, Nat.testBit_or, Bool.or_eq_true, Nat.testBit_two_pow, decide_eq_true_eq]
      constructor
      · rintro ((h1 | rfl) | ⟨h1, h2⟩)
        · exact .inl h1
        · exact .inr ⟨by simp, h⟩
        · exact .inr ⟨by simp [h1], h2⟩
      · rintro (h1 | ⟨h1, h2⟩)
        · exact .inl (.inl h1)
        · rcases List.mem_cons.1 h1 with rfl | h1
          · exact .inl (.inr rfl)
          · exact .inr ⟨h1, h2⟩
    · rw [if_neg h]
      constructor
      · rintro (h1 | ⟨h1, h2⟩)
        · exact .inl h1
        · exact .inr ⟨by simp [h1], h2⟩
      · rintro (h1 | ⟨h1, h2⟩)
        · exact .inl h1
        · rcases List.mem_cons.1 h1 with rfl | h1
          · exact absurd h2 h
          · exact .inr ⟨h1, h2⟩
theorem insTo_all {cs : List Nat} {s : Nat} (hc : Codes cs) (hs : s < 2 ^ cs.length) : insTo cs s (bitsOf s) = insideN cs s := by
  have h64 : s < 64 := Nat.lt_of_lt_of_le hs (Nat.pow_le_pow_right (n := 2) (by omega) hc.2.1)
  refine Nat.eq_of_testBit_eq fun i => ?_
  rw [Bool.eq_iff_iff]
  unfold insTo
  rw [insTo_bit, Nat.zero_testBit, bitsOf_mem h64]
  by_cases hi : i < cs.length
  · rw [inside_bit hi, Bool.and_eq_true]; simp
  · rw [bit_big (inside_lt cs s) (by omega), bit_big hs (by omega)]; simp
theorem insTo_lt {cs : List Nat} {s : Nat} {pre : List Nat} (h : ∀ p ∈ pre, p < 6) : insTo cs s pre < 64 := by
  refine Nat.lt_pow_two_of_testBit (n := 6) _ fun i hi => ?_
  rcases hb : (insTo cs s pre).testBit i with _ | _
  · rfl
  · have := (insTo_bit cs s i pre 0).1 hb
    rw [Nat.zero_testBit] at this
    rcases this with h1 | h1
    · cases h1
    · have := h i h1.1; omega
theorem pre_lt {pre : List Nat} {s : Nat} (h : pre <+: bitsOf s) : ∀ p ∈ pre, p < 6 := fun p hp => bitsOf_lt (h.subset hp)
theorem pre_bit {pre : List Nat} {x s : Nat} (hs : s < 64) (h : pre ++ [x] <+: bitsOf s) : s.testBit x = true ∧ x < 6 := by
  have hx : x ∈ bitsOf s := h.subset (by simp)
  exact ⟨(bitsOf_mem hs).1 hx, bitsOf_lt hx⟩
theorem shl_num (p : Nat) (hp : p < 6) : IntKind.u64.wrap ((2 : Int) ^ p) = ((2 ^ p : Nat) : Int) := by
  have h : p = 0 ∨ p = 1 ∨ p = 2 ∨ p = 3 ∨ p = 4 ∨ p = 5 := by omega
  rcases h with rfl | rfl | rfl | rfl | rfl | rfl <;> decide

set_option maxRecDepth 100000 in
set_option maxHeartbeats 1600000 in
theorem inside_any (cs : List Nat) (s : Nat) (w : World) (hc : Codes cs) (hs : s < 2 ^ cs.length) (hT : Tab w) :
    Calls Tryd.prog 19 #[spV cs, .int .u64 s] w fun e w' => e = .returned (.int .u64 (insideN cs s : Nat)) ∧ Below w.heap.size w w' := by
  have h64 : s < 64 := Nat.lt_of_lt_of_le hs (Nat.pow_le_pow_right (n := 2) (by omega) hc.2.1)
  have hall := insTo_all hc hs
  have hc64 := cell_64 hc
  have HALL := Lib.hid hall
  have HC := Lib.hid hc64
  have HS := Lib.hid hs
  clear hall hc64 hs
  generalize hN : insideN cs s = N at *
  clear hN hc
  refine (callsIn_wide (n := 20)).1 ?_
  refine callsIn_of_wp_marks Tryd.func19 rfl trivial ?_ rfl
  simp only [Tryd.ntmps19, List.size_toArray, List.length_cons, List.length_nil, Nat.reduceAdd, Nat.reduceSub, Array.replicate_succ, Array.replicate_zero, List.push_toArray, List.append_toArray, List.nil_append, List.cons_append]
  gi_wp2_with fail
  refine ⟨trivial, (callsIn_wide.2 (points_any s _)).mono ?_⟩
  rintro e w1 ⟨rfl, rfl⟩
  gi_wp2_with fail
  generalize hW0 : World.alloc (World.alloc (World.alloc (World.alloc w _) _) _) _ = W0
  have hsz : W0.heap.size = w.heap.size + 4 := by rw [← hW0]; simp
  have hbW : Below w.heap.size w W0 := by rw [← hW0]; exact ((((Below.refl _ _).alloc (Nat.le_refl _) _).alloc (by simp) _).alloc (by simp <;> omega) _).alloc (by simp <;> omega) _
  have hb0 : SpF W0 w.heap.size cs.length (cell cs) := by rw [← hW0]; exact alloc_old (alloc_old (alloc_old (heap_alloc_new _ _)))
  have hb1 : W0.heap[w.heap.size + 1]? = some (.cells #[.int .u64 s] 32) := by rw [← hW0]; exact alloc_old (alloc_old (heap_alloc_at _ _ _ (by simp)))
  have hb2 : W0.heap[w.heap.size + 2]? = some (.cells #[.int .u64 0] 32) := by rw [← hW0]; exact alloc_old (heap_alloc_at _ _ _ (by simp))
  have hb3 : W0.heap[w.heap.size + 3]? = some (.cells #[.int .u64 s] 32) := by rw [← hW0]; exact heap_alloc_at _ _ _ (by simp)
  clear hW0
  refine range_pts (gf := 37) (Bs := w.heap.size + 3) (s := s) rfl (enters_of Tryd.func37 (by kernel_rfl) rfl)
    (points_given s (w.heap.size + 3) h64 19 (by omega) W0 (by omega)) hb3 rfl
    (fun pre W => SpF W w.heap.size cs.length (cell cs) ∧ W.heap[w.heap.size + 1]? = some (.cells #[.int .u64 s] 32) ∧ W.heap[w.heap.size + 2]? = some (.cells #[.int .u64 (insTo cs s pre : Nat)] 32) ∧ Below w.heap.size w W)
    (fun c pre W => False) ?a1 ?hI (fun c s W W' row h _ _ => h) ?hIB (fun pre W h => hT.below h.2.2.2) ⟨hb0, hb1, hb2, hbW⟩ ?assign ?body ?done ?stop
  case assign =>
    intro l x W K hK
    gi_wp2
    exact hK
  case hI =>
    rintro s W W' row ⟨h1, h2, h3, h4⟩ hg hr
    exact ⟨own_block hg hr (by omega) h1, own_block hg hr (by omega) h2, own_block hg hr (by omega) h3, h4.grown hg h4.size (fun k e => by have := (hr k e).1; omega)⟩
  case hIB =>
    rintro s W v ⟨h1, h2, h3, h4⟩
    exact ⟨h1.other (by omega), set_other h2 (by omega), set_other h3 (by omega), h4.setCell (p := ⟨w.heap.size + 3, 0, none⟩) (by simp) _⟩
  case body =>
    rintro l pre x W hl ⟨h1, h2, h3, h4⟩ hpx
    obtain ⟨hsx, hx6⟩ := pre_bit h64 hpx
    have hpre := pre_lt (s := s) (pre := pre) ((List.prefix_append _ _).trans hpx)
    have c1 := h1.cell hx6
    have c2 := cell_of h2 (j := 0) rfl
    have hcx := HC.out x
    have hand := u64_andNot (cell cs x) s (by omega) (by omega)
    have hsn := insTo_snoc cs s pre x
    have hil := insTo_lt (cs := cs) (s := s) hpre
    have x0 : (0 : Int) ≤ (x : Int) := by omega
    have x1 : (x : Int) < 6 := by omega
    by_cases hsub : subB (cell cs x) s = true
    · have hz : (((diff (cell cs x) s : Nat) : Int) == 0) = true := by
        unfold subB at hsub
        rw [decide_eq_true_eq] at hsub
        rw [hsub]; rfl
      rw [if_pos hsub] at hsn
      have hz2 : ((diff (cell cs x) s : Nat) : Int) = 0 := by simpa using hz
      have hsh := shl_num x hx6
      have hor : bits .or .u64 (insTo cs s pre : Int) ((2 : Int) ^ x) = ((insTo cs s pre ||| 2 ^ x : Nat) : Int) := by
        have := u64_or (insTo cs s pre) (2 ^ x) (by omega) (by have := pow_lt64 hx6; omega)
        rwa [show (((2 ^ x : Nat) : Int)) = (2 : Int) ^ x by push_cast; rfl] at this
      have HSN := Lib.hid hsn
      have H1 := Lib.hid h1
      have H2 := Lib.hid h2
      have H3 := Lib.hid h3
      have H4 := Lib.hid h4
      have c3 := cell_of h3 (j := 0) rfl
      have f3 := free_of h3 0
      clear hsn h1 h2 h3 h4 hsub hpx hpre hsx
      gi_wp2_with fail
      refine region_quiet_round (by kernel_rfl) (by kernel_rfl) (by kernel_rfl) ?_
      repeat (gi_big_quiet_step (fail))
      refine wpQuietIn_nil ?_
      intro _ hw'
      obtain ⟨nq, hw''⟩ := hw'
      subst hw''
      gi_wp2_with fail
      refine region_then 4 rfl rfl rfl (by kernel_rfl) (by kernel_rfl) (by kernel_rfl) (by kernel_rfl) (by kernel_rfl) (by kernel_rfl) ?_
      dsimp only [List.dropLast]
      repeat (gi_big_quiet_step (fail))
      refine wpQuietIn_nil ?_
      intro _ hw'
      obtain ⟨nq, hw''⟩ := hw'
      subst hw''
      go_simp
      refine ⟨(keeps_drewN _ W _).trans (keeps_set _ _ _ _ _), ?_, ?_, ?_, ?_, ?_⟩
      · exact SameAt.setCell (heap_drewN _ _ _) (by omega) _
      · exact SpF.other (SpF.drewN H1.out _) (by omega)
      · exact set_other ((heap_drewN _ _ _).trans H2.out) (by omega)
      · rw [HSN.out]; exact set_same ((heap_drewN _ _ _).trans H3.out)
      · exact (below_to H4.out H4.out.size (below_drewN _ _)).setCell (p := ⟨w.heap.size + 1 + 1, 0, none⟩) (by simp <;> omega) _
    · have hz : (((diff (cell cs x) s : Nat) : Int) == 0) = false := by
        rcases hb : (((diff (cell cs x) s : Nat) : Int) == 0) with _ | _
        · rfl
        · exfalso; apply hsub
          unfold subB
          rw [decide_eq_true_eq]
          simpa using hb
      rw [if_neg hsub] at hsn
      have hz2 : ¬ ((diff (cell cs x) s : Nat) : Int) = 0 := by simpa using hz
      have HSN := Lib.hid hsn
      have H1 := Lib.hid h1
      have H2 := Lib.hid h2
      have H3 := Lib.hid h3
      have H4 := Lib.hid h4
      clear hsn h1 h2 h3 h4 hsub hpx hpre hsx
      gi_wp2_with fail
      refine region_quiet_round (by kernel_rfl) (by kernel_rfl) (by kernel_rfl) ?_
      repeat (gi_big_quiet_step (fail))
      refine wpQuietIn_nil ?_
      intro _ hw'
      obtain ⟨nq, hw''⟩ := hw'
      subst hw''
      gi_wp2_with fail
      refine ⟨keeps_drewN _ W _, heap_drewN _ _ _, SpF.drewN H1.out _, (heap_drewN _ _ _).trans H2.out, ?_, below_to H4.out H4.out.size (below_drewN _ _)⟩
      rw [HSN.out]; exact (heap_drewN _ _ _).trans H3.out
  case done =>
    rintro D W hD ⟨h1, h2, h3, h4⟩ hK
    rw [HALL.out] at h3
    have c3 := cell_of h3 (j := 0) rfl
    gi_wp2_with fail
    refine ⟨by simp, .inl ⟨_, _, rfl, run_takeDeferred hK, ?_⟩⟩
    refine ⟨_, results_tmp rfl _ _ _, rfl, ?_⟩
    exact h4.trans (belowK_b (w := w) (Nat.le_refl _) _ D _ _ (by omega) hK rfl rfl)
  case stop =>
    rintro D c pre W hD hpre h
    exact h.elim
end Go.Proofs.YtfhcbaamibipcaaDoor
