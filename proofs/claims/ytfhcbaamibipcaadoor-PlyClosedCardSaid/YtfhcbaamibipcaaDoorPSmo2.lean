/- ply: Smooth, where one of the lists is no space. -/
import Derived.Test.YtfhcbaamibipcaaDoorPSmo1
set_option linter.unusedVariables false
set_option linter.unusedSimpArgs false
namespace Go.Proofs.YtfhcbaamibipcaaDoor
open Go.RowKit Go.Shelf
attribute [local go_sem] Oper.semAt_some

/-- newSpace at any list -/
theorem newSpace_all (v : Value) (l : List Int) (w : World) (hr : Reads w v l) (hT : Tab w) :
    Calls Tryd.prog 16 #[v] w fun e w' => ∃ n c, e = .returned (.tuple #[spF n c, .bool (spL l)]) ∧ Below w.heap.size w w' := by
  rcases h : spL l with _ | _
  · exact newSpace_no v l w hr h hT
  · obtain ⟨cs, rfl, hc, hs⟩ : ∃ cs, l = ofNats cs ∧ Codes cs ∧ spaceB cs = true := by
      have := spL_get h
      exact ⟨_, this.2.2, this.1, this.2.1⟩
    exact (newSpace_yes v cs w hr hc hs hT).mono fun e w' hh => ⟨_, _, hh.1, hh.2⟩
set_option maxRecDepth 100000 in
set_option maxHeartbeats 1600000 in
theorem Smooth_no (v u : Value) (l m : List Int) (w : World) (hr : Reads w v l) (hru : Reads w u m) (h : (spL l && spL m) = false) (hT : Tab w) :
    Calls Tryd.prog 13 #[v, u] w fun e w' => e = .returned (.tuple #[.int .i64 0, .int .i64 2]) ∧ Below w.heap.size w w' := by
  have hr0 := hr
  have hru0 := hru
  obtain ⟨a, cap, rfl, _, _, _⟩ := hr.open
  obtain ⟨a2, cap2, rfl, _, _, _⟩ := hru.open
  clear hr hru
  refine (callsIn_wide (n := 20)).1 ?_
  refine callsIn_of_wp_marks Tryd.func13 rfl trivial ?_ rfl
  simp only [Tryd.ntmps13, List.size_toArray, List.length_cons, List.length_nil, Nat.reduceAdd, Nat.reduceSub, Array.replicate_succ, Array.replicate_zero, List.push_toArray, List.append_toArray, List.nil_append, List.cons_append]
  gi_wp2_with fail
  refine ⟨trivial, (callsIn_wide.2 (newSpace_all _ l _ hr0 hT)).mono ?_⟩
  rintro e w1 ⟨n, c, rfl, hb1⟩
  obtain ⟨hs1, hb2⟩ := lay_sp hb1 n c
  have hT2 := hT.below hb2
  have hru2 := hru0.below hb2
  gi_wp2_with fail
  generalize hW : World.alloc w1 _ = W at *
  clear hW
  refine ⟨trivial, (callsIn_wide.2 (newSpace_all _ m _ hru2 hT2)).mono ?_⟩
  rintro e w2 ⟨n2, c2, rfl, hb3⟩
  obtain ⟨hs2, hb4⟩ := lay_sp hb3 n2 c2
  have hb5 := below_to hb2 hb2.size hb4
  clear hs1 hs2
  rcases h1 : spL l with _ | _
  · gi_wp2_with fail
    refine leave_marks (B := w.heap.size) [] w.heap.size _ trivial fun w' hs => ?_
    exact ⟨_, results_tmp2 rfl _ _ _, rfl, hb5.trans hs.below⟩
  · rw [h1, Bool.true_and] at h
    rw [h]
    gi_wp2_with fail
    refine leave_marks (B := w.heap.size) [] w.heap.size _ trivial fun w' hs => ?_
    exact ⟨_, results_tmp2 rfl _ _ _, rfl, hb5.trans hs.below⟩
end Go.Proofs.YtfhcbaamibipcaaDoor
