/- Next. -/
import Derived.Test.YtbkjdpdihnloeaaItem
import Derived.Test.YtbkjdpdihnloeaaCmp
set_option linter.unusedVariables false
set_option linter.unusedSimpArgs false
namespace Go.Proofs.Ytbkjdpdihnloeaa
open Go.RowKit Go.Shelf
attribute [local go_sem] Oper.semAt_some

/-- the first clear order after an order -/
def nextL (l : List Int) : Option (List Int) := (clearsL l.length []).find? (fun m => ltB l m)
def optE (o : Option (List Int)) (e : Int) : Int := if o.isSome then 0 else e
def nextS (l : List Int) : List Int × Int := if (ordB l && decide (l.length ≤ 7)) = true then ((nextL l).getD [], optE (nextL l) 6) else ([], 2)

theorem find_pre {α : Type} {p : α → Bool} {l pre : List α} {x : α} (h : pre ++ [x] <+: l) (h1 : ∀ m ∈ pre, p m = false) (h2 : p x = true) : l.find? p = some x := by
  obtain ⟨r, rfl⟩ := h
  rw [List.append_assoc, List.find?_append, List.find?_eq_none.2 (fun a ha => by simp [h1 a ha])]
  simp [h2]
theorem find_no {α : Type} {p : α → Bool} {l : List α} (h1 : ∀ m ∈ l, p m = false) : l.find? p = none := List.find?_eq_none.2 (fun a ha => by simp [h1 a ha])
theorem mem_snoc_map {p : List Int → Bool} {pre : List (Value × List Int)} {x : Value × List Int} (h : ∀ y ∈ pre, p y.2 = false) (hx : p x.2 = false) : ∀ y ∈ pre ++ [x], p y.2 = false := fun y hy => by
  rcases List.mem_append.1 hy with hy | hy
  · exact h y hy
  · simp only [List.mem_singleton] at hy; subst hy; exact hx

set_option maxRecDepth 100000 in
set_option maxHeartbeats 3200000 in
theorem Next_ok (v : Value) (xs : List Int) (w : World) (hr : Reads w v xs) (ho : ordB xs = true) (h7 : xs.length ≤ 7) :
    Calls Try.prog 5 #[v] w (RetReads w ((nextL xs).getD []) (optE (nextL xs) 6)) := by
  have hr0 := hr
  obtain ⟨a, cap, rfl, _, _, _⟩ := hr.open
  have HO := Lib.hid ho
  obtain ⟨hl1, hl2⟩ := ordB_len ho
  have t7 : decide (7 < (xs.length : Int)) = false := by simp; omega
  clear hr ho
  refine (callsIn_wide (n := 20)).1 ?_
  refine callsIn_of_wp_marks Try.func5 rfl trivial ?_ rfl
  simp only [Try.ntmps5, List.size_toArray, List.length_cons, List.length_nil, Nat.reduceAdd, Nat.reduceSub, Array.replicate_succ, Array.replicate_zero, List.push_toArray, List.append_toArray, List.nil_append, List.cons_append]
  gi_wp2_with fail
  have hr3 := ((hr0.below ((Below.refl _ w).alloc (Nat.le_refl _) (.cells #[.slice a xs.length cap] 22))).below ((Below.refl _ _).alloc (Nat.le_refl _) (.cells #[.slice none 0 0] 22))).below ((Below.refl _ _).alloc (Nat.le_refl _) (.cells #[.int .i64 0] 24))
  have HR3 := Lib.hid hr3
  clear hr3
  refine ⟨trivial, (callsIn_wide.2 (isOrder_any _ _ _ HR3.out)).mono ?_⟩
  rintro e w' ⟨rfl, rfl⟩
  rw [HO.out]
  gi_wp2_with fail
  refine ⟨trivial, (callsIn_wide.2 (clear_any _ _ _ _ _)).mono ?_⟩
  rintro e w' ⟨rfl, rfl⟩
  gi_wp2_with fail
  generalize hW0 : World.alloc (World.alloc (World.alloc (World.alloc (World.alloc w _) _) _) _) _ = W0
  have hsz : W0.heap.size = w.heap.size + 5 := by rw [← hW0]; simp
  have hbW : Below w.heap.size w W0 := by rw [← hW0]; exact (((((Below.refl _ _).alloc (Nat.le_refl _) _).alloc (by simp) _).alloc (by simp <;> omega) _).alloc (by simp <;> omega) _).alloc (by simp <;> omega) _
  have hb0 : W0.heap[w.heap.size]? = some (.cells #[.slice a xs.length cap] 22) := by rw [← hW0]; exact alloc_old (alloc_old (alloc_old (alloc_old (heap_alloc_new _ _))))
  have hb1 : W0.heap[w.heap.size + 1]? = some (.cells #[.slice none 0 0] 22) := by rw [← hW0]; exact alloc_old (alloc_old (alloc_old (heap_alloc_at _ _ _ (by simp))))
  have hb2 : W0.heap[w.heap.size + 2]? = some (.cells #[.int .i64 0] 24) := by rw [← hW0]; exact alloc_old (alloc_old (heap_alloc_at _ _ _ (by simp)))
  have hb3 : W0.heap[w.heap.size + 3]? = some (.cells #[.slice none 0 0] 22) := by rw [← hW0]; exact alloc_old (heap_alloc_at _ _ _ (by simp))
  have hb4 : W0.heap[w.heap.size + 4]? = some (.cells #[.int .i64 xs.length] 3) := by rw [← hW0]; exact heap_alloc_at _ _ _ (by simp)
  clear hW0
  refine range_given (gf := 24) (lb := #[.pointer (some ⟨w.heap.size + 4, 0, none⟩), .pointer (some ⟨w.heap.size + 3, 0, none⟩)]) rfl (enters_of Try.func24 (by kernel_rfl) rfl)
    (clear1_given (fun b => b = w.heap.size + 1 ∨ b = w.heap.size + 2 ∨ b = W0.heap.size ∨ b = W0.heap.size + 1) xs.length (by omega) [] (by simp) (by intro j; simp [gi]) (.slice none 0 0) (w.heap.size + 4) (w.heap.size + 3) _ W0 (by omega) (by omega) (by omega) hb4 hb3 (Reads.nil _))
    (fun h k => KeepX.trans h k) (fun W o' => KeepX.putObj (.inr (.inr (.inr rfl)))) (fun _ => rfl)
    (fun pre W => W.heap[w.heap.size]? = some (.cells #[.slice a xs.length cap] 22) ∧ W.heap[w.heap.size + 1]? = some (.cells #[.slice none 0 0] 22) ∧ W.heap[w.heap.size + 2]? = some (.cells #[.int .i64 0] 24) ∧ (∀ y ∈ pre, ltB xs y.2 = false) ∧ Below w.heap.size w W)
    (fun c pre' W => c = .ret ∧ ∃ pre x, pre' = pre ++ [x] ∧ (∀ y ∈ pre, ltB xs y.2 = false) ∧ ltB xs x.2 = true ∧ W.heap[w.heap.size + 1]? = some (.cells #[x.1] 22) ∧ W.heap[w.heap.size + 2]? = some (.cells #[.int .i64 0] 24) ∧ Reads W x.1 x.2 ∧ Below w.heap.size w W)
    ?hI ?hIx ⟨hb0, hb1, hb2, by simp, hbW⟩
    (fun pre x a' W => x.2.length = xs.length ∧ Given2 (fun b => b = w.heap.size + 1 ∨ b = w.heap.size + 2 ∨ b = W0.heap.size ∨ b = W0.heap.size + 1) W x.1 x.2 ∧ a' = { tmps := #[.slice a xs.length cap, .pointer (some ⟨w.heap.size, 0, none⟩), .pointer (some ⟨w.heap.size + 1, 0, none⟩), .pointer (some ⟨w.heap.size + 1 + 1, 0, none⟩), x.1, .slice a xs.length cap, .bool true, .bool false, .bool false, .slice a xs.length cap, .int .i64 xs.length, .bool false, .bool false, .slice a xs.length cap, .int .i64 xs.length, .func (.func 24) #[] #[.pointer (some ⟨w.heap.size + 1 + 1 + 1 + 1, 0, none⟩), .pointer (some ⟨w.heap.size + 1 + 1 + 1, 0, none⟩)], x.1, undef, undef, undef, undef, undef], defers := [] })
    ?hAx ?assign ?body ?done ?stop
  case hI =>
    rintro s W W' row ⟨h1, h2, h3, h4, h5⟩ hg hr
    exact ⟨own_block hg hr (by omega) h1, own_block hg hr (by omega) h2, own_block hg hr (by omega) h3, h4, h5.grown hg h5.size (fun k e => by have := (hr k e).1; omega)⟩
  case hIx =>
    rintro c s W W' row ⟨h0, pre, x, h1, h2, h2', h3, h4, h5, h6⟩ hg hr
    exact ⟨h0, pre, x, h1, h2, h2', own_block hg hr (by omega) h3, own_block hg hr (by omega) h4, h5.grown hg hr, h6.grown hg h6.size (fun k e => by have := (hr k e).1; omega)⟩
  case hAx =>
    rintro pre x a' s W W' row ⟨h0, h1, h2⟩ hg hr
    exact ⟨h0, h1.grown hg hr, h2⟩
  case assign =>
    rintro l pre ⟨x, lx⟩ W K hI ⟨hx, hxn⟩ hK
    have HXN := Lib.hid hxn
    clear hxn
    have hx0 := hx
    obtain ⟨ax, capx, hxe, _⟩ := hx.open
    simp only at hxe
    subst hxe
    simp only [ordEnc] at hK ⊢
    gi_wp2
    exact hK _ _ (KeepsFrom.refl _ _) (KeepX.refl _ _) hI ⟨HXN.out, hx0, by kernel_rfl⟩
  case body =>
    rintro l pre ⟨x, lx⟩ a' W hl hrr ⟨g1, g2, g3, g4, g5⟩ ⟨hxn, hgv, rfl⟩
    have HXN := Lib.hid hxn
    clear hxn
    obtain ⟨ax, capx, hxe, _⟩ := hgv.open
    simp only at hxe
    subst hxe
    have c1 := cell_of g1 (j := 0) rfl
    have f2 := free_of g2 0
    have f3 := free_of g3 0
    have c2 := cell_of g2 (j := 0) rfl
    have c3 := cell_of g3 (j := 0) rfl
    have hcr := hgv.reads
    have hxr := hr0.below g5
    have G4 := Lib.hid g4
    clear g4
    rcases he : ltB xs lx with _ | _
    · have hp : decide (0 < cmpL lx xs) = false := by
        rw [decide_eq_false_iff_not, cmpL_pos, he]; simp
      have HE := Lib.hid he
      have HCR := Lib.hid hcr
      have HXR := Lib.hid hxr
      clear he hcr hxr
      gi_wp2_with fail
      refine ⟨trivial, (CallsIn.inRound l (callsIn_wide.2 (compare_any _ _ _ _ _ HCR.out HXR.out HXN.out))).mono ?_⟩
      rintro e w' ⟨rfl, rfl⟩
      gi_wp2
      exact ⟨KeepsFrom.refl _ _, KeepX.refl _ _, g1, g2, g3, mem_snoc_map G4.out HE.out, g5⟩
    · have hp : decide (0 < cmpL lx xs) = true := by
        rw [decide_eq_true_eq, cmpL_pos, he]
      have HE := Lib.hid he
      have HCR := Lib.hid hcr
      have HXR := Lib.hid hxr
      clear he hcr hxr
      gi_wp2_with fail
      refine ⟨trivial, (CallsIn.inRound l (callsIn_wide.2 (compare_any _ _ _ _ _ HCR.out HXR.out HXN.out))).mono ?_⟩
      rintro e w' ⟨rfl, rfl⟩
      gi_wp2
      obtain ⟨p1, p2, p3, p4⟩ := put2 (X := fun b => b = w.heap.size + 1 ∨ b = w.heap.size + 2 ∨ b = W0.heap.size ∨ b = W0.heap.size + 1) g2 g3 (by omega) (.inl rfl) (.inr (.inl rfl)) (.slice ax lx.length capx) (.int .i64 0)
      exact ⟨p1.from _, p2, rfl, pre, _, rfl, G4.out, HE.out, p3, p4, Given2.reads (Reads.keepX hgv p2), (g5.setCell (p := ⟨w.heap.size + 1, 0, none⟩) (by simp) _).setCell (p := ⟨w.heap.size + 2, 0, none⟩) (by simp) _⟩
  case done =>
    rintro D zs W hD hzs ⟨g1, g2, g3, g4, g5⟩ hK
    have f2 := free_of g2 0
    have f3 := free_of g3 0
    have c2 := cell_of g2 (j := 0) rfl
    have c3 := cell_of g3 (j := 0) rfl
    have hN : nextL xs = none := by
      unfold nextL
      rw [← hzs]
      refine find_no fun m hm => ?_
      obtain ⟨y, hy, rfl⟩ := List.mem_map.1 hm
      exact g4 y hy
    have HN := Lib.hid hN
    clear hN hzs g4
    gi_wp2
    obtain ⟨p1, p2, p3, p4⟩ := put2 (X := fun _ => True) g2 g3 (by omega) trivial trivial (.slice none 0 0) (.int .i64 6)
    have hK2 := p1.same D _ hK rfl
    refine ⟨by simp, .inl ⟨_, _, rfl, run_takeDeferred hK2, ?_⟩⟩
    rw [HN.out]
    refine ⟨_, results_cell2 (g1 := w.heap.size + 1) (g2 := w.heap.size + 1 + 1) rfl rfl rfl (loadVar_cell (by kernel_rfl) (putObj_other p3 (by omega))) (loadVar_cell (by kernel_rfl) (putObj_other p4 (by omega))), _, rfl, Reads.nil _, ?_⟩
    exact ((g5.setCell (p := ⟨w.heap.size + 1, 0, none⟩) (by simp) _).setCell (p := ⟨w.heap.size + 2, 0, none⟩) (by simp) _).trans (belowK_b (w := w) (Nat.le_refl _) _ D _ _ (by omega) hK2 rfl rfl)
  case stop =>
    rintro D c pre' W hD hpre ⟨rfl, pre, x, h1, h2, h2', h3, h4, h5, h6⟩ hK
    subst h1
    have hN : nextL xs = some x.2 := by
      unfold nextL
      rw [List.map_append] at hpre
      refine find_pre hpre (fun m hm => ?_) h2'
      obtain ⟨y, hy, rfl⟩ := List.mem_map.1 hm
      exact h2 y hy
    have HN := Lib.hid hN
    clear hN hpre h2 h2'
    gi_wp2
    refine ⟨by simp, .inl ⟨_, _, rfl, run_takeDeferred hK, ?_⟩⟩
    rw [HN.out]
    refine ⟨_, results_cell2 (g1 := w.heap.size + 1) (g2 := w.heap.size + 1 + 1) rfl rfl rfl (loadVar_cell (by kernel_rfl) (putObj_other h3 (by omega))) (loadVar_cell (by kernel_rfl) (putObj_other h4 (by omega))), _, rfl, reads_putDeferred h5 hK, ?_⟩
    exact h6.trans (belowK_b (w := w) (Nat.le_refl _) _ D _ _ (by omega) hK rfl rfl)

set_option maxRecDepth 100000 in
set_option maxHeartbeats 800000 in
theorem Next_err (v : Value) (xs : List Int) (w : World) (hr : Reads w v xs) (h : (ordB xs && decide (xs.length ≤ 7)) = false) :
    Calls Try.prog 5 #[v] w (RetReads w [] 2) := by
  have hr0 := hr
  obtain ⟨a, cap, rfl, _, _, _⟩ := hr.open
  have hr3 := ((hr0.below ((Below.refl _ w).alloc (Nat.le_refl _) (.cells #[.slice a xs.length cap] 22))).below ((Below.refl _ _).alloc (Nat.le_refl _) (.cells #[.slice none 0 0] 22))).below ((Below.refl _ _).alloc (Nat.le_refl _) (.cells #[.int .i64 0] 24))
  have HR3 := Lib.hid hr3
  clear hr3 hr
  rcases ho : ordB xs with _ | _
  · have HO := Lib.hid ho
    clear ho h
    go_enter Try.func5, Try.ntmps5
    go_wp2_with (go_at_call 13; refine (isOrder_any _ _ _ HR3.out).mono ?_; rintro e w' ⟨rfl, rfl⟩; rw [HO.out])
    refine bodyPost_ret (v := .tuple #[.slice none 0 0, .int .i64 2]) (by simp [results, Try.results5, go_sem]) rfl (RetReads.nil ?_)
    exact ((((Below.refl _ _).alloc (Nat.le_refl _) _).alloc (by simp) _).alloc (by simp <;> omega) _)
  · rw [ho, Bool.true_and, decide_eq_false_iff_not] at h
    have t7 : decide (7 < (xs.length : Int)) = true := by simp; omega
    have HO := Lib.hid ho
    clear ho h
    go_enter Try.func5, Try.ntmps5
    go_wp2_with (go_at_call 13; refine (isOrder_any _ _ _ HR3.out).mono ?_; rintro e w' ⟨rfl, rfl⟩; rw [HO.out])
    refine bodyPost_ret (v := .tuple #[.slice none 0 0, .int .i64 2]) (by simp [results, Try.results5, go_sem]) rfl (RetReads.nil ?_)
    exact ((((Below.refl _ _).alloc (Nat.le_refl _) _).alloc (by simp) _).alloc (by simp <;> omega) _)
theorem Next_any (v : Value) (xs : List Int) (w : World) (hr : Reads w v xs) : Calls Try.prog 5 #[v] w (RetReads w (nextS xs).1 (nextS xs).2) := by
  unfold nextS
  rcases h : (ordB xs && decide (xs.length ≤ 7)) with _ | _
  · exact Next_err v xs w hr h
  · rw [Bool.and_eq_true, decide_eq_true_eq] at h
    exact Next_ok v xs w hr h.1 h.2
end Go.Proofs.Ytbkjdpdihnloeaa
