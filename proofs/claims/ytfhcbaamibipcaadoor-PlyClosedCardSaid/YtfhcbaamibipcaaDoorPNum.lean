/- ply: numbers, Core. -/
import Derived.Test.YtfhcbaamibipcaaDoorPCore
set_option linter.unusedVariables false
set_option linter.unusedSimpArgs false
namespace Go.Proofs.YtfhcbaamibipcaaDoor
open Go.RowKit Go.Shelf
attribute [local go_sem] Oper.semAt_some

theorem append_intKIn {F : Fence} {n : Nat} {ops : Array Oper} {rest : List Oper} {o : Oper} {a : Act} {w0 w : World} {Q : Exit → Act → World → Prop} (hgd : o.guard = none) (s x : Operand)
    (ho : o.op = .call { callee := .builtin .append, args := #[s, x], argTypes := #[22, 22] }) {v : Value} {xs : List Int} (hc : Col w0 w v xs) (hs : a.eval s = v)
    (y : Int) (hx : a.eval x = .slice (some ⟨w.heap.size, 0, none⟩) 1 1) (hlen : xs.length ≤ 1000000000)
    (h : ∀ v' w', Col w0 w' v' (xs ++ [y]) → v' ≠ .slice none 0 0 → KeepNI w w' → KeepsFrom w.heap.size w w' → wpListIn F n Tryd.prog ops Q rest (a.put o.dst v') w') : wpListIn F n Tryd.prog ops Q (o :: rest) a (w.alloc (.cells #[.int .i64 y] 3)) := by
  obtain ⟨i0, hi, hz0, hz1, hz2⟩ := info_parts infoInt
  refine wpListIn_append_own _ hgd s x 22 ho w0.heap.size 3 i0 (.int .i64 0) 1 8 Tryd.underlying22 hi hz0 hz1 hz2 rfl (by decide) v xs.length (xs.map (Value.int .i64)) hs (hc.own.alloc _) ⟨w.heap.size, 0, none⟩ 1 1 [.int .i64 y] hx rfl (cell_one_new _ _ _) (by simp [Value.oneCell']) (by simp only [maxLen]; omega) (by omega) (by have := hc.below.size; simp; omega) ?_
  intro v' w' hown' hgrow hnil
  have keep : ∀ (k : Nat) (o' : Obj), w.heap[k]? = some o' → (∀ cs fr, o' ≠ .cells cs 3 fr) → w'.heap[k]? = some o' := fun k o' hk hno => by
    have hk2 : (w.alloc (.cells #[.int .i64 y] 3)).heap[k]? = some o' := alloc_old hk
    refine (hgrow.block k (heap_lt hk2) (fun e => ?_)).trans hk2
    obtain ⟨cs, fr, hr⟩ := hc.notInt k e.symm
    rw [hk] at hr
    exact hno cs fr (Option.some.inj hr)
  refine h v' w' ⟨by simpa using hown', ?_⟩ (fun e => by simpa using (hnil.1 e).2) keep ⟨Nat.le_trans (by simp) hgrow.size, fun k o' _ hk ho' => keep k o' hk (fun cs fr e => by subst e; cases ho')⟩
  refine (hc.below.alloc hc.below.size _).grown hgrow (by have := hc.below.size; simp; omega) ?_
  intro k hk
  exact (World.ownsRow.lt (hc.own.alloc (.cells #[.int .i64 y] 3)) k hk.symm.symm).1
theorem ofNats_snoc (l : List Nat) (x : Nat) : ofNats (l ++ [x]) = ofNats l ++ [(x : Int)] := by simp [ofNats]
theorem Col.ownNotInt {w0 w : World} {v : Value} {xs : List Int} (h : Col w0 w v xs) : v = .slice none 0 0 ∨ ∃ a l c, v = .slice a l c := by
  obtain ⟨_, h1 | ⟨g, cap, cur, h1, _⟩⟩ := h.own
  · exact .inl h1.1
  · exact .inr ⟨_, _, _, h1⟩
theorem Col.isSlice {w0 w : World} {v : Value} {xs : List Int} (h : Col w0 w v xs) : ∃ a l c, v = Value.slice a l c := by
  rcases h.ownNotInt with rfl | h
  · exact ⟨_, _, _, rfl⟩
  · exact h
theorem KeepNI.slices {w w' : World} {b : Nat} {c : Array Value} (h : KeepNI w w') (hs : w.heap[b]? = some (.cells c 22)) : w'.heap[b]? = some (.cells c 22) := h b _ hs (fun cs fr e => by
  injection e with _ h2 _
  exact absurd h2 (by decide))
/-- a cell of another type is written -/
theorem Col.setCell {w0 w : World} {v : Value} {xs : List Int} (h : Col w0 w v xs) {b : Nat} {t : TypeId} {cs : Array Value} (hb : w0.heap.size ≤ b) (hc : w.heap[b]? = some (.cells cs t)) (ht : t ≠ 3) (u : Value) : Col w0 (w.setCell ⟨b, 0, none⟩ u) v xs := by
  refine ⟨?_, h.below.setCell (p := ⟨b, 0, none⟩) hb u⟩
  obtain ⟨h1, h2 | ⟨g, cap, cur, h3, h4, h5, h6⟩⟩ := h.own
  · exact ⟨h1, .inl h2⟩
  · refine ⟨h1, .inr ⟨g, cap, cur, h3, h4, ?_, h6⟩⟩
    refine (heap_setCell_other _ _ _ _ (fun e => ?_)).trans h5
    have e' : g = b := e
    rw [← e', h5] at hc
    injection hc with hc
    injection hc with _ hc _
    exact ht hc.symm

theorem Col.putObj {w0 w : World} {v : Value} {xs : List Int} (h : Col w0 w v xs) {D : Nat} {ds : Option (List Deferred)} (hD : w0.heap.size ≤ D) (hK : w.heap[D]? = some (.deferred ds)) (o' : Obj) : Col w0 (w.putObj D o') v xs := by
  refine ⟨?_, h.below.trans (belowK_b (w := w0) (Nat.le_refl _) w D _ o' hD hK rfl rfl)⟩
  obtain ⟨h1, h2 | ⟨g, cap, cur, h3, h4, h5, h6⟩⟩ := h.own
  · exact ⟨h1, .inl h2⟩
  · refine ⟨h1, .inr ⟨g, cap, cur, h3, h4, putObj_other h5 (fun e => ?_), h6⟩⟩
    subst e
    rw [h5] at hK; cases hK
set_option maxRecDepth 100000 in
set_option maxHeartbeats 1600000 in
theorem appendSeq_any (wP w : World) (s : Nat) (hs : s < 64) (hb : Below wP.heap.size wP w) (hB : w.heap[wP.heap.size]? = some (.cells #[.int .u64 s] 32)) (hT : Tab wP) :
    Calls Tryd.prog 42 #[.slice none 0 0, .func (.func 37) #[] #[.pointer (some ⟨wP.heap.size, 0, none⟩)]] w fun e w' => ∃ v', e = .returned v' ∧ Col wP w' v' (ofNats (bitsOf s)) := by
  refine (callsIn_wide (n := 20)).1 ?_
  refine callsIn_of_wp_marks Tryd.func42 rfl trivial ?_ rfl
  simp only [Tryd.ntmps42, List.size_toArray, List.length_cons, List.length_nil, Nat.reduceAdd, Nat.reduceSub, Array.replicate_succ, Array.replicate_zero, List.push_toArray, List.append_toArray, List.nil_append, List.cons_append]
  have hlt := heap_lt hB
  gi_wp2_with fail
  generalize hW0 : World.alloc w _ = W0
  have hal : Below w.heap.size w W0 := by rw [← hW0]; exact (Below.refl _ _).alloc (Nat.le_refl _) _
  have hsz : W0.heap.size = w.heap.size + 1 := by rw [← hW0]; simp
  have b0 : W0.heap[w.heap.size]? = some (.cells #[.slice none 0 0] 22) := by rw [← hW0]; exact heap_alloc_new _ _
  have b1 := (hal.block _ hlt).trans hB
  have bb := below_to hb hb.size hal
  clear hW0
  generalize hB0 : w.heap.size = B at *
  clear hB0 hal hB
  refine range_pts (gf := 37) (Bs := wP.heap.size) (s := s) rfl (enters_of Tryd.func37 (by kernel_rfl) rfl)
    (points_given s wP.heap.size hs 19 (by omega) W0 (by omega)) b1 rfl
    (fun pre W => ∃ v, W.heap[B]? = some (.cells #[v] 22) ∧ Col wP W v (ofNats pre) ∧ (∃ c, W.heap[wP.heap.size]? = some (.cells c 32)))
    (fun c pre W => False) ?a1 ?hI (fun c s W W' row h _ _ => h) ?hIB (fun pre W h => by obtain ⟨v, _, h2, _⟩ := h; exact hT.below h2.below) ⟨_, b0, ⟨World.ownsRow_nil _ _ _ _, bb⟩, _, b1⟩ ?assign ?body ?done ?stop
  case assign =>
    intro l x W K hK
    gi_wp2
    exact hK
  case hI =>
    rintro s W W' row ⟨v, h1, h2, c, h3⟩ hg hr
    refine ⟨v, own_cells hg hr h1, ⟨?_, h2.below.grown hg h2.below.size (fun k e => by have := (hr k e).1; omega)⟩, c, own_cells hg hr h3⟩
    obtain ⟨g1, g2 | ⟨g, cap, cur, g3, g4, g5, g6⟩⟩ := h2.own
    · exact ⟨g1, .inl g2⟩
    · exact ⟨g1, .inr ⟨g, cap, cur, g3, g4, own_cells hg hr g5, g6⟩⟩
  case hIB =>
    rintro s W v ⟨v0, h1, h2, c, h3⟩
    exact ⟨v0, set_other h1 (by omega), h2.setCell (Nat.le_refl _) h3 (by decide) _, c.setIfInBounds 0 v, heap_setCell_same _ _ 0 _ _ v h3⟩
  case body =>
    rintro l pre x W hl ⟨v, h1, h2, c, h3⟩ hpx
    have c1 := cell_of h1 (j := 0) rfl
    have HL : Hid ((ofNats pre).length ≤ 1000000000) := Lib.hid (by
      rw [ofNats_len]
      have h4 := hpx.length_le
      have h5 : (bitsOf s).length ≤ 6 := by unfold bitsOf; exact Nat.le_trans (List.length_filter_le _ _) (by simp)
      simp at h4; omega)
    have H1 := Lib.hid h1
    have H2 := Lib.hid h2
    have H3 := Lib.hid h3
    have hf := free_of h1 0
    have hbl : B < W.heap.size := heap_lt h1
    obtain ⟨va, vl, vc, rfl⟩ := h2.isSlice
    clear h1 h2 h3 hpx
    gi_wp2_with (gi_at_builtin; refine append_intKIn rfl _ _ rfl H2.out rfl _ rfl HL.out ?_; intro v' w' hcol' hne hkeep hkf; obtain ⟨va2, vl2, vc2, rfl⟩ := hcol'.isSlice; have H4 := Lib.hid (hkeep.slices H1.out); have c1' := cell_of H4.out (j := 0) rfl; have f1' := free_of H4.out 0)
    obtain ⟨c, h3⟩ := (⟨c, H3.out⟩ : ∃ c, W.heap[wP.heap.size]? = some (.cells c 32))
    have h3' := hkeep.set h3
    refine ⟨(KeepsFrom.trans ⟨hkf.size, fun k o hk h ho => ?_⟩ (keeps_set _ _ _ _ _)), SameAt.setCell (h3'.trans h3.symm) (by omega) _, _, set_same H4.out, ?_, _, set_other h3' (by omega)⟩
    · exact hkeep k o h (fun cs fr e => by subst e; cases ho)
    · rw [ofNats_snoc]
      exact hcol'.setCell (by omega) H4.out (by decide) _
  case done =>
    rintro D W hD ⟨v, h1, h2, h3⟩ hK
    have c1 := cell_of h1 (j := 0) rfl
    obtain ⟨va, vl, vc, rfl⟩ := h2.isSlice
    have H2 := Lib.hid h2
    clear h1 h2 h3
    gi_wp2_with fail
    refine ⟨by simp, .inl ⟨_, _, rfl, run_takeDeferred hK, ?_⟩⟩
    refine ⟨_, results_tmp rfl _ _ _, _, rfl, ?_⟩
    exact H2.out.putObj (by omega) hK _
  case stop =>
    rintro D c pre W hD hpre h
    exact h.elim
theorem collect_any (wP w : World) (s : Nat) (hs : s < 64) (hb : Below wP.heap.size wP w) (hB : w.heap[wP.heap.size]? = some (.cells #[.int .u64 s] 32)) (hT : Tab wP) :
    Calls Tryd.prog 33 #[.func (.func 37) #[] #[.pointer (some ⟨wP.heap.size, 0, none⟩)]] w fun e w' => ∃ v', e = .returned v' ∧ Col wP w' v' (ofNats (bitsOf s)) := by
  go_enter Tryd.func33, Tryd.ntmps33
  go_wp2_with fail
  refine (appendSeq_any wP w s hs hb hB hT).mono ?_
  rintro e w' ⟨v', rfl, hcol⟩
  obtain ⟨va, vl, vc, rfl⟩ := hcol.isSlice
  go_wp2_with fail
  go_ret
  exact ⟨_, rfl, hcol⟩
theorem numbers_any (s : Nat) (w : World) (hs : s < 64) (hT : Tab w) :
    Calls Tryd.prog 21 #[.int .u64 s] w fun e w' => ∃ v', e = .returned v' ∧ Col w w' v' (ofNats (bitsOf s)) := by
  go_enter Tryd.func21, Tryd.ntmps21
  go_wp2_with fail
  refine (points_any s _).mono ?_
  rintro e w1 ⟨rfl, rfl⟩
  go_wp2_with fail
  refine (collect_any w _ s hs ((Below.refl _ _).alloc (Nat.le_refl _) _) (heap_alloc_new _ _) hT).mono ?_
  rintro e w' ⟨v', rfl, hcol⟩
  obtain ⟨va, vl, vc, rfl⟩ := hcol.isSlice
  go_wp2_with fail
  go_ret
  exact ⟨_, rfl, hcol⟩
theorem coreN_lt {cs : List Nat} (hc : Codes cs) : coreN cs < 64 :=
  (core_ind (P := fun _ => True) (fun _ _ _ _ _ _ => trivial) _ _ (Nat.le_refl _) (lt64_of hc.2.1 (firsts_lt cs _)) trivial).2.2
set_option maxRecDepth 100000 in
set_option maxHeartbeats 800000 in
theorem Core_yes (v : Value) (cs : List Nat) (w : World) (hr : Reads w v (ofNats cs)) (hc : Codes cs) (hsp : spaceB cs = true) (hT : Tab w) :
    Calls Tryd.prog 12 #[v] w fun e w' => ∃ v', e = .returned (.tuple #[v', .int .i64 0]) ∧ Col w w' v' (ofNats (bitsOf (coreN cs))) := by
  have hr0 := hr
  obtain ⟨a, cap, rfl, _, _, _⟩ := hr.open
  clear hr
  go_enter Tryd.func12, Tryd.ntmps12
  go_wp2_with fail
  refine (newSpace_yes _ cs _ hr0 hc hsp hT).mono ?_
  rintro e w1 ⟨rfl, hb1⟩
  obtain ⟨hs1, hb2⟩ := lay_sp hb1 cs.length (cell cs)
  have hT2 := hT.below hb2
  go_wp2_with fail
  generalize hW : World.alloc w1 _ = W at *
  clear hW
  obtain ⟨d0, d1, d2, d3, d4, d5, d6⟩ := hs1.cells
  clear hs1
  go_wp2_with fail
  refine (core_any cs _ hc hT2).mono ?_
  rintro e w2 ⟨rfl, hb3⟩
  have hb4 := below_to hb2 hb2.size hb3
  have hT3 := hT2.below hb3
  clear d0 d1 d2 d3 d4 d5 d6
  go_wp2_with fail
  refine (numbers_any (coreN cs) _ (coreN_lt hc) hT3).mono ?_
  rintro e w3 ⟨v', rfl, hcol⟩
  obtain ⟨va, vl, vc, rfl⟩ := hcol.isSlice
  go_wp2_with fail
  go_ret2
  exact ⟨_, rfl, hcol.lower hb4⟩
set_option maxRecDepth 100000 in
theorem Core_no (v : Value) (l : List Int) (w : World) (hr : Reads w v l) (h : spL l = false) (hT : Tab w) :
    Calls Tryd.prog 12 #[v] w fun e w' => e = .returned (.tuple #[.slice none 0 0, .int .i64 2]) ∧ Below w.heap.size w w' := by
  have hr0 := hr
  obtain ⟨a, cap, rfl, _, _, _⟩ := hr.open
  clear hr
  go_enter Tryd.func12, Tryd.ntmps12
  go_wp2_with fail
  refine (newSpace_no _ l _ hr0 h hT).mono ?_
  rintro e w1 ⟨n, c, rfl, hb1⟩
  obtain ⟨hs1, hb2⟩ := lay_sp hb1 n c
  go_wp2_with fail
  go_ret2
  exact ⟨rfl, hb2⟩
end Go.Proofs.YtfhcbaamibipcaaDoor
