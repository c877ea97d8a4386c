/- Item. -/
import Derived.Test.YtbgempjfifonnaaCnt
import Derived.Test.YtbgempjfifonnaaLens
set_option linter.unusedVariables false
set_option linter.unusedSimpArgs false
namespace Go.Proofs.Ytbgempjfifonnaa
open Go.RowKit Go.Shelf
attribute [local go_sem] Oper.semAt_some

theorem results_cell2 {P : Program} {fn : Func} {p1 p2 : Tmp} {t1 t2 : TypeId} (h : fn.results = #[.cell p1 t1, .cell p2 t2]) {tmps : Array Value} {w : World} {g1 g2 : Nat} {v1 v2 : Value}
    (h1 : tmps.getD p1 undef = .pointer (some ⟨g1, 0, none⟩)) (h2 : tmps.getD p2 undef = .pointer (some ⟨g2, 0, none⟩))
    (l1 : (loadVar t1 ⟨g1, 0, none⟩).run P w = .ok v1 w) (l2 : (loadVar t2 ⟨g2, 0, none⟩).run P w = .ok v2 w) : (results fn tmps).run P w = .ok (.tuple #[v1, v2]) w := by
  have h1' : tmps[p1]?.getD undef = .pointer (some ⟨g1, 0, none⟩) := by simpa using h1
  have h2' : tmps[p2]?.getD undef = .pointer (some ⟨g2, 0, none⟩) := by simpa using h2
  simp [results, h, h1', h2', asAddr, l1, l2]

theorem cell_isCells {W : World} {b i : Nat} {v : Value} (h : W.cell? ⟨b, i, none⟩ = some v) : ∃ o : Obj, W.heap[b]? = some o ∧ o.isCells = true := by
  unfold World.cell? at h
  rcases ho : W.heap[b]? with _ | o
  · simp [ho] at h
  · refine ⟨o, rfl, ?_⟩
    cases o <;> simp_all [Obj.isCells]
theorem Reads.grown {W W' : World} {v : Value} {xs : List Int} {row : Option Nat} {B : Nat} (h : Reads W v xs) (hg : W.grownBy W' row) (hr : ∀ r, row = some r → B ≤ r ∧ ∃ o : Obj, W.heap[r]? = some o ∧ o.isCells = false) : Reads W' v xs := by
  obtain ⟨a, cap, rfl, h1, h2, h3⟩ := h
  refine ⟨a, cap, rfl, h1, h2, h3.imp id ?_⟩
  rintro ⟨b, off, rfl, hlt, hc⟩
  refine ⟨b, off, rfl, Nat.lt_of_lt_of_le hlt hg.size, fun j hj => ?_⟩
  obtain ⟨o, ho, hoc⟩ := cell_isCells (hc j hj)
  have hb : W'.heap[b]? = W.heap[b]? := hg.block b hlt (fun e => by
    obtain ⟨o2, ho2, hc2⟩ := (hr b e.symm).2
    rw [ho] at ho2; cases ho2; rw [hoc] at hc2; cases hc2)
  rw [World.cell?_of_block (w := W) (a := ⟨b, off + j, none⟩) hb]
  exact hc j hj
theorem Reads.setCell {W : World} {v : Value} {xs : List Int} {B : Nat} {u : Value} {X : Nat → Prop} (h : ReadsS (fun b => b < W.heap.size ∧ ¬ X b) W v xs) (hB : X B) : ReadsS (fun b => b < (W.setCell ⟨B, 0, none⟩ u).heap.size ∧ ¬ X b) (W.setCell ⟨B, 0, none⟩ u) v xs :=
  Reads.keepX h ⟨by simp, fun b hb hx => heap_setCell_other _ _ _ _ (fun e => hx (e ▸ hB))⟩
theorem Given2.grown {X : Nat → Prop} {W W' : World} {v : Value} {xs : List Int} {row : Option Nat} {B : Nat} (h : Given2 X W v xs) (hg : W.grownBy W' row) (hr : ∀ r, row = some r → B ≤ r ∧ ∃ o : Obj, W.heap[r]? = some o ∧ o.isCells = false) : Given2 X W' v xs := by
  obtain ⟨a, cap, rfl, h1, h2, h3⟩ := h
  refine ⟨a, cap, rfl, h1, h2, h3.imp id ?_⟩
  rintro ⟨b, off, rfl, hlt, hc⟩
  refine ⟨b, off, rfl, ⟨Nat.lt_of_lt_of_le hlt.1 hg.size, hlt.2⟩, fun j hj => ?_⟩
  obtain ⟨o, ho, hoc⟩ := cell_isCells (hc j hj)
  have hb : W'.heap[b]? = W.heap[b]? := hg.block b hlt.1 (fun e => by
    obtain ⟨o2, ho2, hc2⟩ := (hr b e.symm).2
    rw [ho] at ho2; cases ho2; rw [hoc] at hc2; cases hc2)
  rw [World.cell?_of_block (w := W) (a := ⟨b, off + j, none⟩) hb]
  exact hc j hj

/-- two results are laid into their cells -/
theorem put2 {X : Nat → Prop} {W : World} {r1 r2 : Nat} {a1 a2 : Value} {t1 t2 : TypeId} (h1 : W.heap[r1]? = some (.cells #[a1] t1)) (h2 : W.heap[r2]? = some (.cells #[a2] t2)) (hne : r1 ≠ r2) (hx1 : X r1) (hx2 : X r2) (u1 u2 : Value) :
    KeepsOthers W ((W.setCell ⟨r1, 0, none⟩ u1).setCell ⟨r2, 0, none⟩ u2) ∧ KeepX X W ((W.setCell ⟨r1, 0, none⟩ u1).setCell ⟨r2, 0, none⟩ u2) ∧
      ((W.setCell ⟨r1, 0, none⟩ u1).setCell ⟨r2, 0, none⟩ u2).heap[r1]? = some (.cells #[u1] t1) ∧ ((W.setCell ⟨r1, 0, none⟩ u1).setCell ⟨r2, 0, none⟩ u2).heap[r2]? = some (.cells #[u2] t2) := by
  refine ⟨(KeepsOthers.setCell _ _ _).trans (KeepsOthers.setCell _ _ _), ⟨by simp, fun b hb hx => ?_⟩, set_other (set_same h1) hne, set_same (set_other h2 (fun e => hne e.symm))⟩
  have n1 : b ≠ r1 := fun e => hx (by rw [e]; exact hx1)
  have n2 : b ≠ r2 := fun e => hx (by rw [e]; exact hx2)
  exact (heap_setCell_other _ ⟨r2, 0, none⟩ _ _ n2).trans (heap_setCell_other _ ⟨r1, 0, none⟩ _ _ n1)
theorem Given2.reads {X : Nat → Prop} {W : World} {v : Value} {xs : List Int} (h : Given2 X W v xs) : Reads W v xs := ReadsS.reads h (fun b h => h.1)

/-- what Item answers -/
def itemL (n k : Nat) : List Int := (clearsL n [])[k]?.getD []
def itemE (n k : Nat) : Int := if k < (clearsL n []).length then 0 else 2

/-- a slice that is read, a number behind it, the heap below as it was -/
def RetReads (w : World) (xs : List Int) (err : Int) (e : Ending) (w' : World) : Prop := ∃ v, e = .returned (.tuple #[v, .int .i64 err]) ∧ Reads w' v xs ∧ Below w.heap.size w w'

theorem reads_putDeferred {W : World} {v : Value} {xs : List Int} {D : Nat} {o : Obj} (h : Reads W v xs) (hD : W.heap[D]? = some (.deferred (some []))) : Reads (W.putObj D o) v xs :=
  h.grown (B := 0) (grownBy_putObj' W D o) (fun r e => by cases e; exact ⟨Nat.zero_le _, _, hD, rfl⟩)

set_option maxRecDepth 100000 in
set_option maxHeartbeats 1600000 in
theorem Item_ok (n k : Nat) (w : World) (h1 : 1 ≤ n) (h7 : n ≤ 7) (hk : (k : Int) ≤ 9223372036854775807) :
    Calls Try.prog 6 #[.int .i64 n, .int .i64 k] w (RetReads w (itemL n k) (itemE n k)) := by
  have hw : withinB n 1 7 = true := withinB_iff.2 ⟨by omega, by omega⟩
  have HW := Lib.hid hw
  clear hw
  have hk0 : decide ((k : Int) < 0) = false := by simp
  refine (callsIn_wide (n := 20)).1 ?_
  refine callsIn_of_wp_marks Try.func6 rfl trivial ?_ rfl
  simp only [Try.ntmps6, List.size_toArray, List.length_cons, List.length_nil, Nat.reduceAdd, Nat.reduceSub, Array.replicate_succ, Array.replicate_zero, List.push_toArray, List.append_toArray, List.nil_append, List.cons_append]
  gi_wp2_with fail
  refine ⟨trivial, (callsIn_wide.2 (within_any _ _ _ _)).mono ?_⟩
  rintro e w' ⟨rfl, rfl⟩
  rw [HW.out]
  gi_wp2_with fail
  refine ⟨trivial, (callsIn_wide.2 (clear_any _ _ _ _ _)).mono ?_⟩
  rintro e w' ⟨rfl, rfl⟩
  gi_wp2_with fail
  generalize hW0 : World.alloc (World.alloc (World.alloc (World.alloc (World.alloc w _) _) _) _) _ = W0
  have hsz : W0.heap.size = w.heap.size + 5 := by rw [← hW0]; simp
  have hbW : Below w.heap.size w W0 := by rw [← hW0]; exact (((((Below.refl _ _).alloc (Nat.le_refl _) _).alloc (by simp) _).alloc (by simp <;> omega) _).alloc (by simp <;> omega) _).alloc (by simp <;> omega) _
  have hb0 : W0.heap[w.heap.size]? = some (.cells #[.int .i64 k] 3) := by rw [← hW0]; exact alloc_old (alloc_old (alloc_old (alloc_old (heap_alloc_new _ _))))
  have hb1 : W0.heap[w.heap.size + 1]? = some (.cells #[.slice none 0 0] 27) := by rw [← hW0]; exact alloc_old (alloc_old (alloc_old (heap_alloc_at _ _ _ (by simp))))
  have hb2 : W0.heap[w.heap.size + 2]? = some (.cells #[.int .i64 0] 23) := by rw [← hW0]; exact alloc_old (alloc_old (heap_alloc_at _ _ _ (by simp)))
  have hb3 : W0.heap[w.heap.size + 3]? = some (.cells #[.slice none 0 0] 27) := by rw [← hW0]; exact alloc_old (heap_alloc_at _ _ _ (by simp))
  have hb4 : W0.heap[w.heap.size + 4]? = some (.cells #[.int .i64 n] 3) := by rw [← hW0]; exact heap_alloc_at _ _ _ (by simp)
  clear hW0
  refine range_given (gf := 21) (lb := #[.pointer (some ⟨w.heap.size + 4, 0, none⟩), .pointer (some ⟨w.heap.size + 3, 0, none⟩)]) rfl (enters_of Try.func21 (by kernel_rfl) rfl)
    (clear1_given (fun b => b = w.heap.size ∨ b = w.heap.size + 1 ∨ b = w.heap.size + 2 ∨ b = W0.heap.size ∨ b = W0.heap.size + 1) n (by omega) [] (by simp) (by intro j; simp [gi]) (.slice none 0 0) (w.heap.size + 4) (w.heap.size + 3) _ W0 (by omega) (by omega) (by omega) hb4 hb3 (Reads.nil _))
    (fun h k => KeepX.trans h k) (fun W o' => KeepX.putObj (.inr (.inr (.inr (.inr rfl))))) (fun _ => rfl)
    (fun pre W => W.heap[w.heap.size]? = some (.cells #[.int .i64 ((k : Int) - pre.length)] 3) ∧ W.heap[w.heap.size + 1]? = some (.cells #[.slice none 0 0] 27) ∧ W.heap[w.heap.size + 2]? = some (.cells #[.int .i64 0] 23) ∧ pre.length ≤ k ∧ Below w.heap.size w W)
    (fun c pre' W => c = .ret ∧ ∃ pre x, pre' = pre ++ [x] ∧ pre.length = k ∧ W.heap[w.heap.size + 1]? = some (.cells #[x.1] 27) ∧ W.heap[w.heap.size + 2]? = some (.cells #[.int .i64 0] 23) ∧ Reads W x.1 x.2 ∧ Below w.heap.size w W)
    ?hI ?hIx ⟨by simpa using hb0, hb1, hb2, by simp, hbW⟩
    (fun pre x a' W => Given2 (fun b => b = w.heap.size ∨ b = w.heap.size + 1 ∨ b = w.heap.size + 2 ∨ b = W0.heap.size ∨ b = W0.heap.size + 1) W x.1 x.2 ∧ a' = { tmps := #[.int .i64 n, .int .i64 k, undef, .pointer (some ⟨w.heap.size, 0, none⟩), .pointer (some ⟨w.heap.size + 1, 0, none⟩), .pointer (some ⟨w.heap.size + 1 + 1, 0, none⟩), x.1, .int .i64 n, .bool true, .bool false, .bool false, .int .i64 k, .bool false, .bool false, .int .i64 n, .func (.func 21) #[] #[.pointer (some ⟨w.heap.size + 1 + 1 + 1 + 1, 0, none⟩), .pointer (some ⟨w.heap.size + 1 + 1 + 1, 0, none⟩)], x.1, undef, undef, undef, undef, undef], defers := [] })
    ?hAx ?assign ?body ?done ?stop
  case hI =>
    rintro s W W' row ⟨h1, h2, h3, h4, h5⟩ hg hr
    exact ⟨own_block hg hr (by omega) h1, own_block hg hr (by omega) h2, own_block hg hr (by omega) h3, h4, h5.grown hg h5.size (fun k e => by have := (hr k e).1; omega)⟩
  case hIx =>
    rintro c s W W' row ⟨h0, pre, x, h1, h2, h3, h4, h5, h6⟩ hg hr
    exact ⟨h0, pre, x, h1, h2, own_block hg hr (by omega) h3, own_block hg hr (by omega) h4, h5.grown hg hr, h6.grown hg h6.size (fun k e => by have := (hr k e).1; omega)⟩
  case hAx =>
    rintro pre x a' s W W' row ⟨h1, h2⟩ hg hr
    exact ⟨h1.grown hg hr, h2⟩
  case assign =>
    rintro l pre ⟨x, lx⟩ W K hI ⟨hx, hxn⟩ hK
    clear hxn
    have hx0 := hx
    obtain ⟨ax, capx, hxe, _⟩ := hx.open
    simp only at hxe
    subst hxe
    simp only [ordEnc] at hK ⊢
    gi_wp2
    exact hK _ _ (KeepsFrom.refl _ _) (KeepX.refl _ _) hI ⟨hx0, by kernel_rfl⟩
  case body =>
    rintro l pre ⟨x, lx⟩ a' W hl hr ⟨g1, g2, g3, g4, g5⟩ ⟨hgv, rfl⟩
    obtain ⟨ax, capx, hxe, _⟩ := hgv.open
    simp only at hxe
    subst hxe
    have c1 := cell_of g1 (j := 0) rfl
    have f1 := free_of g1 0
    have f2 := free_of g2 0
    have f3 := free_of g3 0
    have c2 := cell_of g2 (j := 0) rfl
    have c3 := cell_of g3 (j := 0) rfl
    by_cases he : pre.length = k
    · have he' : ((k : Int) - (pre.length : Int) == 0) = true := by simp; omega
      have HE := Lib.hid he
      clear he
      gi_wp2
      obtain ⟨p1, p2, p3, p4⟩ := put2 (X := fun b => b = w.heap.size ∨ b = w.heap.size + 1 ∨ b = w.heap.size + 2 ∨ b = W0.heap.size ∨ b = W0.heap.size + 1) g2 g3 (by omega) (.inr (.inl rfl)) (.inr (.inr (.inl rfl))) (.slice ax lx.length capx) (.int .i64 0)
      rw [hsz] at p2
      exact ⟨p1.from _, p2, rfl, pre, _, _, rfl, HE.out, p3, p4, Given2.reads (Reads.keepX hgv (by rw [hsz]; exact p2)), (g5.setCell (p := ⟨w.heap.size + 1, 0, none⟩) (by simp) _).setCell (p := ⟨w.heap.size + 2, 0, none⟩) (by simp) _⟩
    · have he' : ((k : Int) - (pre.length : Int) == 0) = false := by simp; omega
      have HE := Lib.hid he
      clear he
      gi_wp2
      refine ⟨(KeepsOthers.setCell _ _ _).from _, ⟨by simp, fun b hb hx => heap_setCell_other _ _ _ _ (fun e => hx (.inl e))⟩, ?_, set_other g2 (by omega), set_other g3 (by omega), by have := HE.out; simp; omega, g5.setCell (p := ⟨w.heap.size, 0, none⟩) (Nat.le_refl _) _⟩
      rw [set_same g1]
      simp only [List.length_append, List.length_singleton]
      rw [show (k : Int) - ((pre.length + 1 : Nat) : Int) = (k : Int) - (pre.length : Int) - 1 by omega]
  case done =>
    rintro D zs W hD hzs ⟨g1, g2, g3, g4, g5⟩ hK
    have f2 := free_of g2 0
    have f3 := free_of g3 0
    have c2 := cell_of g2 (j := 0) rfl
    have c3 := cell_of g3 (j := 0) rfl
    have hlen : zs.length = (clearsL n []).length := by rw [← hzs, List.length_map]
    have HL := Lib.hid hlen
    have HZ := Lib.hid hzs
    clear hlen hzs
    gi_wp2
    obtain ⟨p1, p2, p3, p4⟩ := put2 (X := fun _ => True) g2 g3 (by omega) trivial trivial (.slice none 0 0) (.int .i64 2)
    have hK2 := p1.same D _ hK rfl
    refine ⟨by simp, .inl ⟨_, _, rfl, run_takeDeferred hK2, ?_⟩⟩
    have hL : itemL n k = [] := by
      unfold itemL
      rw [List.getElem?_eq_none (by rw [← HL.out]; exact g4)]; rfl
    have hE : itemE n k = 2 := by unfold itemE; rw [if_neg (by rw [← HL.out]; omega)]
    rw [hL, hE]
    refine ⟨_, results_cell2 (g1 := w.heap.size + 1) (g2 := w.heap.size + 1 + 1) rfl rfl rfl (loadVar_cell (by kernel_rfl) (putObj_other p3 (by omega))) (loadVar_cell (by kernel_rfl) (putObj_other p4 (by omega))), _, rfl, Reads.nil _, ?_⟩
    exact ((g5.setCell (p := ⟨w.heap.size + 1, 0, none⟩) (by simp) _).setCell (p := ⟨w.heap.size + 2, 0, none⟩) (by simp) _).trans (belowK_b (w := w) (Nat.le_refl _) _ D _ _ (by omega) hK2 rfl rfl)
  case stop =>
    rintro D c pre' W hD hpre ⟨rfl, pre, x, h1, h2, h3, h4, h5, h6⟩ hK
    subst h1
    obtain ⟨r, hr⟩ := hpre
    have hget : (clearsL n [])[k]? = some x.2 := by
      rw [← hr]
      simp [← h2]
    have HG := Lib.hid hget
    clear hget hr
    gi_wp2
    refine ⟨by simp, .inl ⟨_, _, rfl, run_takeDeferred hK, ?_⟩⟩
    have hL : itemL n k = x.2 := by unfold itemL; rw [HG.out]; rfl
    have hE : itemE n k = 0 := by
      unfold itemE; rw [if_pos]
      exact (List.getElem?_eq_some_iff.1 HG.out).1
    rw [hL, hE]
    refine ⟨_, results_cell2 (g1 := w.heap.size + 1) (g2 := w.heap.size + 1 + 1) rfl rfl rfl (loadVar_cell (by kernel_rfl) (putObj_other h3 (by omega))) (loadVar_cell (by kernel_rfl) (putObj_other h4 (by omega))), _, rfl, reads_putDeferred h5 hK, ?_⟩
    exact h6.trans (belowK_b (w := w) (Nat.le_refl _) _ D _ _ (by omega) hK rfl rfl)

/-- what Item answers, for any ints -/
def itemS (n k : Int) : List Int × Int := if (withinB n 1 7 && decide (0 ≤ k)) = true then (itemL n.toNat k.toNat, itemE n.toNat k.toNat) else ([], 2)
theorem RetReads.nil {w w' : World} {e : Int} (h : Below w.heap.size w w') : RetReads w [] e (.returned (.tuple #[.slice none 0 0, .int .i64 e])) w' := ⟨_, rfl, Reads.nil _, h⟩

set_option maxRecDepth 100000 in
set_option maxHeartbeats 800000 in
theorem Item_err (n k : Int) (w : World) (h : (withinB n 1 7 && decide (0 ≤ k)) = false) :
    Calls Try.prog 6 #[.int .i64 n, .int .i64 k] w (RetReads w [] 2) := by
  rcases hw : withinB n 1 7 with _ | _
  · have HW := Lib.hid hw
    clear hw h
    go_enter Try.func6, Try.ntmps6
    go_wp2_with (go_at_call 13; refine (within_any _ _ _ _).mono ?_; rintro e w' ⟨rfl, rfl⟩; rw [HW.out])
    refine bodyPost_ret (v := .tuple #[.slice none 0 0, .int .i64 2]) (by simp [results, Try.results6, go_sem]) rfl (RetReads.nil ?_)
    exact ((((Below.refl _ _).alloc (Nat.le_refl _) _).alloc (by simp) _).alloc (by simp <;> omega) _)
  · rw [hw, Bool.true_and] at h
    have hk : decide (k < 0) = true := by
      rw [decide_eq_false_iff_not] at h; exact decide_eq_true (by omega)
    have HW := Lib.hid hw
    clear hw h
    go_enter Try.func6, Try.ntmps6
    go_wp2_with (go_at_call 13; refine (within_any _ _ _ _).mono ?_; rintro e w' ⟨rfl, rfl⟩; rw [HW.out])
    refine bodyPost_ret (v := .tuple #[.slice none 0 0, .int .i64 2]) (by simp [results, Try.results6, go_sem]) rfl (RetReads.nil ?_)
    exact ((((Below.refl _ _).alloc (Nat.le_refl _) _).alloc (by simp) _).alloc (by simp <;> omega) _)
theorem Item_any (n k : Int) (w : World) (hk2 : k ≤ 9223372036854775807) : Calls Try.prog 6 #[.int .i64 n, .int .i64 k] w (RetReads w (itemS n k).1 (itemS n k).2) := by
  unfold itemS
  rcases h : (withinB n 1 7 && decide (0 ≤ k)) with _ | _
  · exact Item_err n k w h
  · rw [Bool.and_eq_true, decide_eq_true_eq] at h
    obtain ⟨h1, h2⟩ := withinB_iff.1 h.1
    obtain ⟨m, rfl⟩ : ∃ m : Nat, n = m := ⟨n.toNat, by omega⟩
    obtain ⟨j, rfl⟩ : ∃ j : Nat, k = j := ⟨k.toNat, by omega⟩
    exact Item_ok m j w (by omega) (by omega) hk2
end Go.Proofs.Ytbgempjfifonnaa
