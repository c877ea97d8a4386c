/- isClear: whether no step of two columns comes twice. -/
import Derived.Test.YtlgonmnbedddaaaPair
import Derived.Test.YtlgonmnbedddaaaMap
set_option linter.unusedVariables false
set_option linter.unusedSimpArgs false
namespace Go.Proofs.Ytlgonmnbedddaaa
open Go.RowKit Go.Shelf
attribute [local go_sem] Oper.semAt_some

theorem eq_step (a b : Int × Int) (w : World) : (Op.equal 62 (stepEnc a) (stepEnc b)).run Try.prog w = .ok (decide (a = b)) w := by
  obtain ⟨a1, a2⟩ := a
  obtain ⟨b1, b2⟩ := b
  show (Op.equalIn 10000 62 (.agg #[.int .i64 a1, .int .i64 a2]) (.agg #[.int .i64 b1, .int .i64 b2])).run Try.prog w = _
  go_simp
  by_cases h1 : a1 = b1 <;> by_cases h2 : a2 = b2 <;> simp [h1, h2]
theorem key_step : KeyOK 62 stepEnc where
  check := fun a em w => by kernel_rfl
  find := fun a es ks w h => by
    rw [← run_findAsking eq_step a es ks 0 w h]
    unfold Instr.findKey
    rw [Sem.run_bind, run_underlying Try.underlying62]
    simp only [Result.andThen_ok]
    cases es with
    | nil => simp [Instr.findNow, Instr.findAsking]
    | cons e es => rfl

/-- the steps of a list of pairs -/
def stepsOf (xs : List Int) (ps : List (Nat × Nat)) : List (Int × Int) := ps.map (stepOf xs)
theorem stepsOf_snoc (xs : List Int) (ps : List (Nat × Nat)) (p : Nat × Nat) : stepsOf xs (ps ++ [p]) = stepsOf xs ps ++ [stepOf xs p] := by simp [stepsOf]
def clearB (xs : List Int) : Bool := decide (stepsOf xs (pairsN xs.length)).Nodup
def trueKeys (ss : List (Int × Int)) : List ((Int × Int) × Value) := ss.map fun s => (s, .bool true)
theorem trueKeys_keys (ss : List (Int × Int)) : (trueKeys ss).map (·.1) = ss := by simp [trueKeys, Function.comp_def]

set_option maxRecDepth 100000 in
set_option maxHeartbeats 1600000 in
theorem isClear_any (v : Value) (xs : List Int) (w : World) (hsm : ∀ j, -1000000 ≤ gi xs j ∧ gi xs j ≤ 1000000) (hn : xs.length ≤ 1000000) (hr : Reads w v xs) :
    Calls Try.prog 25 #[v] w fun e w' => e = .returned (.bool (clearB xs)) ∧ Below w.heap.size w w' := by
  have hr0 := hr
  obtain ⟨a, cap, rfl, h1, h2, _⟩ := hr.open
  clear hr h1 h2
  refine (callsIn_wide (n := 10)).1 ?_
  refine callsIn_of_wp_marks Try.func25 rfl trivial ?_ rfl
  simp only [Try.ntmps25, List.size_toArray, List.length_cons, List.length_nil, Nat.reduceAdd, Nat.reduceSub, Array.replicate_succ, Array.replicate_zero, List.push_toArray, List.append_toArray, List.nil_append, List.cons_append]
  have hmm := @run_makeMap Try.prog
  gi_wp2_with (refine ⟨trivial, ?_⟩; gi_at_call 27; refine (callsIn_wide.2 (pairs_any _ _ _ _)).mono ?_; rintro e w' ⟨rfl, rfl⟩)
  have hz : ((w.alloc (.cells #[.bool false] 4)).alloc (.map #[] 0)).heap.size = w.heap.size + 2 := by simp
  have hM := MapIs.made stepEnc (w.alloc (.cells #[.bool false] 4))
  generalize hW0 : World.alloc (World.alloc (World.alloc (World.alloc w _) _) _) _ = W0
  have hsz : W0.heap.size = w.heap.size + 4 := by rw [← hW0]; simp
  have hbW : Below w.heap.size w W0 := by rw [← hW0]; exact ((((Below.refl _ _).alloc (Nat.le_refl _) _).alloc (by simp) _).alloc (by simp <;> omega) _).alloc (by simp <;> omega) _
  have hb0 : W0.heap[w.heap.size]? = some (.cells #[.bool false] 4) := by
    rw [← hW0, heap_alloc_lt _ _ _ (by simp; omega), heap_alloc_lt _ _ _ (by simp; omega), heap_alloc_lt _ _ _ (by simp)]; exact heap_alloc_new _ _
  have hb1 : W0.heap[w.heap.size + 1]? = some (.map #[] 0) := by
    rw [← hW0, heap_alloc_lt _ _ _ (by simp <;> omega), heap_alloc_lt _ _ _ (by simp <;> omega)]; exact heap_alloc_at _ _ _ (by simp)
  have hb2 : W0.heap[w.heap.size + 2]? = some (.cells #[.map (some (w.heap.size + 1))] 73) := by
    rw [← hW0, heap_alloc_lt _ _ _ (by simp)]; exact heap_alloc_at _ _ _ (by simp)
  have hb3 : W0.heap[w.heap.size + 3]? = some (.cells #[.slice a xs.length cap] 22) := by
    rw [← hW0]; exact heap_alloc_at _ _ _ (by simp)
  clear hW0 hM hz hmm
  have hS : ∀ b, (b < w.heap.size ∨ b = w.heap.size + 3) → b < W0.heap.size := by intro b hb; omega
  refine wpIn_rangeFunc_ownH (w0 := W0) rfl (by omega : 1 ≤ 10) (gf := 42) (lb := #[.pointer (some ⟨w.heap.size + 3, 0, none⟩)]) rfl trivial (enters_of Try.func42 (by kernel_rfl) rfl)
    (pairs_stops (fun b => b < w.heap.size ∨ b = w.heap.size + 3) (w.heap.size + 3) (.slice a xs.length cap) xs hsm hn _ (by omega) W0 (by rw [cell_of_row _ _ _ _ _ _ hb3]; rfl) (.inr rfl) hS ((hr0.later hbW).mono (fun b hb => .inl hb)))
    (fun h k => SameS.trans h k) (fun W l o o' hl _ _ _ => SameS.putObj (fun i hi => by have := hS i hi; omega)) (Below.refl _ _) (fun _ => rfl)
    (fun pre W => W.heap[w.heap.size]? = some (.cells #[.bool false] 4) ∧ W.heap[w.heap.size + 2]? = some (.cells #[.map (some (w.heap.size + 1))] 73) ∧ MapIs stepEnc W (w.heap.size + 1) (trueKeys (stepsOf xs pre)) ∧ (stepsOf xs pre).Nodup ∧ W0.heap.size ≤ W.heap.size ∧ Below w.heap.size w W)
    (fun c pre W => c = .ret ∧ W.heap[w.heap.size]? = some (.cells #[.bool false] 4) ∧ ¬ (stepsOf xs pre).Nodup ∧ Below w.heap.size w W)
    ?hI ?hIx ⟨hb0, hb2, ⟨#[], 0, hb1, rfl, rfl⟩, by simp [stepsOf], Nat.le_refl _, hbW⟩
    (fun x a' W => ∃ Bx, w.heap.size + 3 < Bx ∧ W.heap[Bx]? = some (.cells #[.int .i64 (stepOf xs x).1, .int .i64 (stepOf xs x).2] 62) ∧ a' = { tmps := #[.slice a xs.length cap, undef, .pointer (some ⟨w.heap.size, 0, none⟩), .pointer (some ⟨w.heap.size + 1 + 1, 0, none⟩), undef, .pointer (some ⟨Bx, 0, none⟩), .map (some (w.heap.size + 1)), .slice a xs.length cap, .func (.func 42) #[] #[.pointer (some ⟨w.heap.size + 1 + 1 + 1, 0, none⟩)], pairEnc x, stepEnc (stepOf xs x), undef, undef, undef, undef, undef], defers := [] })
    ?hAx ?assign ?body ?done ?stop
  case hI =>
    intro s W W' row ⟨h1, h2, h3, h4, h5, h6⟩ hg hr
    refine ⟨own_block hg hr (by omega) h1, own_block hg hr (by omega) h2, h3.of_block (hg.block _ h3.lt (fun e => by have := (hr _ e.symm).1; omega)), h4, Nat.le_trans h5 hg.size, h6.grown hg h6.size (fun k e => by have := (hr k e).1; omega)⟩
  case hIx =>
    intro c s W W' row ⟨h0, h1, h4, h6⟩ hg hr
    exact ⟨h0, own_block hg hr (by omega) h1, h4, h6.grown hg h6.size (fun k e => by have := (hr k e).1; omega)⟩
  case hAx =>
    intro x a' s W W' row ⟨Bx, h1, h2, h3⟩ hg hr
    exact ⟨Bx, h1, own_cells hg hr h2, h3⟩
  case assign =>
    rintro l pre x W K ⟨h1, h2, h3, h4, h5, h6⟩ hK
    simp only [pairEncs, pairEnc, stepEnc] at hK ⊢
    gi_wp2
    refine hK _ _ ((KeepsOthers.alloc _ _).from _) ?_ ⟨alloc_old h1, alloc_old h2, h3.of_block (heap_alloc_lt _ _ _ h3.lt), h4, by simp; omega, h6.alloc h6.size _⟩ ⟨W.heap.size, by omega, heap_alloc_new _ _, rfl⟩
    intro i hi
    have := hS i hi
    exact heap_alloc_lt _ _ _ (by omega)
  case body =>
    rintro l pre x a' W hl hr ⟨h1, h2, h3, h4, h5, h6⟩ ⟨Bx, hBx, hX, rfl⟩ hlt
    have c1 := cell_of h1 (j := 0) (v := .bool false) rfl
    have f1 := free_of h1 0
    have c2 : W.cell? ⟨w.heap.size + 1 + 1, 0, none⟩ = some (.map (some (w.heap.size + 1))) := cell_of h2 (j := 0) rfl
    have c3 := cell_of hX (j := 0) (v := .int .i64 (stepOf xs x).1) rfl
    have c4 := cell_of hX (j := 1) (v := .int .i64 (stepOf xs x).2) rfl
    by_cases hm : stepOf xs x ∈ stepsOf xs pre
    · have HM := Lib.hid hm
      clear hm
      gi_wp2_with (gi_at_lookup; refine map_lookup_yes_in rfl _ _ false rfl key_step Try.underlying73 rfl h3 (stepOf xs x) (.bool true) rfl (by rw [trueKeys_keys]; exact h4) (List.mem_map_of_mem (f := fun s => (s, Value.bool true)) HM.out) ?_)
      exact ⟨(KeepsOthers.setCell _ _ _).from _, rfl, set_same h1, by rw [stepsOf_snoc, List.nodup_append]; intro h; exact h.2.2 _ HM.out _ (by simp) rfl, h6.setCell (p := ⟨w.heap.size, 0, none⟩) (Nat.le_refl _) _⟩
    · have HM := Lib.hid hm
      clear hm
      gi_wp2_with (first
        | (gi_at_lookup; refine map_lookup_no_in rfl _ _ false rfl key_step Try.underlying73 (z := .bool false) (by kernel_rfl) rfl h3 (stepOf xs x) rfl (by rw [trueKeys_keys]; exact HM.out) ?_)
        | (gi_at_mapUpdate; refine map_update_new_in rfl _ _ _ rfl key_step Try.underlying73 rfl h3 (stepOf xs x) (.bool true) rfl rfl (by rw [trueKeys_keys]; exact HM.out) ?_; intro w1 hm1 hg1))
      refine ⟨KeepsFrom.of_grownBy hg1 (fun j e => by cases e; omega), fun i hi => hg1.block i (by have := hS i hi; omega) (fun e => by cases e; omega), grown_old hg1 h1 (fun e => by injection e; omega), grown_old hg1 h2 (fun e => by injection e; omega), ?_, ?_, Nat.le_trans h5 hg1.size, h6.grown hg1 h6.size (fun k e => by cases e; omega)⟩
      · rw [stepsOf_snoc]; simpa [trueKeys] using hm1
      · rw [stepsOf_snoc, List.nodup_append]
        exact ⟨h4, by simp, fun a ha b hb => by simp at hb; subst hb; rintro rfl; exact HM.out ha⟩
  case done =>
    rintro D ys W hD rfl ⟨h1, h2, h3, h4, h5, h6⟩ hK
    have c1 := cell_of h1 (j := 0) (v := .bool false) rfl
    have f1 := free_of h1 0
    have hcl : clearB xs = true := by simp [clearB, h4]
    have HC := Lib.hid hcl
    clear hcl
    gi_wp2
    have hK2 : (W.setCell ⟨w.heap.size, 0, none⟩ (.bool true)).heap[D]? = some (.deferred (some [])) := set_other hK (by omega)
    refine ⟨by simp, .inl ⟨_, _, rfl, run_takeDeferred hK2, ?_⟩⟩
    refine ⟨_, results_cell1 (g := w.heap.size) rfl rfl (by kernel_rfl) (putObj_other (set_same h1) (by omega)), by rw [HC.out], ?_⟩
    exact (h6.setCell (p := ⟨w.heap.size, 0, none⟩) (Nat.le_refl _) _).trans (belowK_b (w := w) (Nat.le_refl _) _ D _ _ (by omega) hK2 rfl rfl)
  case stop =>
    rintro D c pre W hD hpre ⟨rfl, h1, h4, h6⟩ hK
    have hcl : clearB xs = false := by
      simp only [clearB, decide_eq_false_iff_not]
      intro hnd
      apply h4
      obtain ⟨r, hr⟩ := hpre
      rw [← hr, stepsOf, List.map_append, List.nodup_append] at hnd
      exact hnd.1
    have HC := Lib.hid hcl
    clear hcl
    gi_wp2
    refine ⟨by simp, .inl ⟨_, _, rfl, run_takeDeferred hK, ?_⟩⟩
    refine ⟨_, results_cell1 (g := w.heap.size) rfl rfl (by kernel_rfl) (putObj_other h1 (by omega)), by rw [HC.out], ?_⟩
    exact h6.trans (belowK_b (w := w) (Nat.le_refl _) _ D _ _ (by omega) hK rfl rfl)
end Go.Proofs.Ytlgonmnbedddaaa
