/- ply: smooth, and Smooth. -/
import Derived.Test.YtfhcbaamibipcaaDoorPSmo
import Derived.Test.YtfhcbaamibipcaaDoorGivenB
import Derived.Test.YtfhcbaamibipcaaDoorMarks
set_option linter.unusedVariables false
set_option linter.unusedSimpArgs false
namespace Go.Proofs.YtfhcbaamibipcaaDoor
open Go.RowKit Go.Shelf
attribute [local go_sem] Oper.semAt_some

set_option maxRecDepth 100000 in
theorem smooth_any (cs ds : List Nat) (w : World) :
    Calls Tryd.prog 22 #[spV cs, spV ds] w fun e w' => e = .returned (.func (.func 34) #[] #[.pointer (some ⟨w.heap.size, 0, none⟩), .pointer (some ⟨w.heap.size + 1, 0, none⟩)]) ∧ SpF w' w.heap.size cs.length (cell cs) ∧ SpF w' (w.heap.size + 1) ds.length (cell ds) ∧ Below w.heap.size w w' ∧ w'.heap.size = w.heap.size + 2 := by
  go_enter Tryd.func22, Tryd.ntmps22
  go_wp2_with fail
  go_ret
  exact ⟨rfl, alloc_old (heap_alloc_new _ _), heap_alloc_at _ _ _ (by simp), ((Below.refl _ _).alloc (Nat.le_refl _) _).alloc (by simp) _, by simp⟩

def imgEnc (x : List Nat) : Array Value := #[imF (cell x)]
def smoothsN (cs ds : List Nat) : List (List Nat) := smL cs ds cs.length []

set_option maxRecDepth 100000 in
set_option maxHeartbeats 1600000 in
theorem smooth1_given (X : Nat → Prop) (cs ds : List Nat) (hc : Codes cs) (hd : Codes ds) (Bx Bz m : Nat) (w : World)
    (hX : ∀ b, X b → b < w.heap.size + 2) (hXx : ¬ X Bx) (hXz : ¬ X Bz) (hBx : SpF w Bx cs.length (cell cs)) (hBz : SpF w Bz ds.length (cell ds)) :
    GivenB m Tryd.prog 34 #[.pointer (some ⟨Bx, 0, none⟩), .pointer (some ⟨Bz, 0, none⟩)] imgEnc (KeepX X) (fun zs => zs = smoothsN cs ds) (fun zs => zs <+: smoothsN cs ds) (fun pre x W => x.length = cs.length) w := by
  intro l J Jx W hW hWs hJ hJx hJB hY h0
  refine CallsIn.any (m := 9) _ ?_
  have hBx1 : SpF W Bx cs.length (cell cs) := (hW.block Bx hBx.lt).trans hBx
  have hBz1 : SpF W Bz ds.length (cell ds) := (hW.block Bz hBz.lt).trans hBz
  refine (callsIn_of_wp Tryd.func34 rfl trivial ?_ rfl)
  simp only [Tryd.ntmps34, List.size_toArray, List.length_cons, List.length_nil, Nat.reduceAdd, Nat.reduceSub, Array.replicate_succ, Array.replicate_zero, List.push_toArray, List.append_toArray, List.nil_append, List.cons_append]
  gi_wp2_with fail
  have hXW : ∀ b, X b → b < W.heap.size := fun b hb => Nat.lt_of_lt_of_le (hX b hb) hWs
  have hYok : YieldI X cs.length l J Jx := fun pre x W1 h1 h2 => by
    obtain ⟨fn, tmps, ca, bd, h3, h4⟩ := hY pre x W1 h1 h2
    exact ⟨fn, tmps, ca, bd, h3, RoundIn.any 0 h4⟩
  generalize hW2 : World.alloc (World.alloc W _) _ = W2
  have hbW : Below W.heap.size W W2 := by rw [← hW2]; exact ((Below.refl _ _).alloc (Nat.le_refl _) _).alloc (by simp) _
  have hcap : CapsI X cs ds l Bx W.heap.size Bz (W.heap.size + 1) W2 := by
    refine ⟨hBx1.below hbW, ?_, hBz1.below hbW, ?_, hXx, fun h => by have := hXW _ h; omega, hXz, fun h => by have := hXW _ h; omega⟩
    · rw [← hW2]; exact alloc_old (heap_alloc_new _ _)
    · rw [← hW2]; exact heap_alloc_at _ _ _ (by simp)
  clear hW2
  have hj2 : J [] W2 := hJ _ _ _ none h0 (below_grown0 hbW) (fun _ e => by cases e)
  refine ⟨trivial, (CallsIn.any 8 (extend_in X cs ds hc hd l Bx W.heap.size Bz (W.heap.size + 1) W.heap.size hXW J Jx hJ hJB hYok cs.length [] W2 [] (by simp) (by simp) hbW.size hcap hj2)).mono ?_⟩
  rintro e W' ⟨c, rfl, hext⟩
  have HE := Lib.hid hext
  clear hext
  gi_wp2_with fail
  go_end0
  refine ⟨⟨_, rfl⟩, ?_⟩
  cases c
  · obtain ⟨ys, g1, g2⟩ := HE.out.2.2 rfl
    exact .inr ⟨ys, g1, by simpa using g2⟩
  · exact .inl ⟨_, rfl, by simpa [smoothsN] using HE.out.2.1 rfl⟩

theorem smL_len (cs ds : List Nat) : ∀ d l, (smL cs ds d l).length ≤ ds.length ^ d
  | 0, l => by simp [smL]
  | d + 1, l => by
    simp only [smL]
    rw [List.length_flatMap]
    have : ∀ (f : Nat → Nat) (m : Nat), (∀ r, f r ≤ ds.length ^ d) → ((List.range m).map f).sum ≤ m * ds.length ^ d := by
      intro f m hf
      induction m with
      | zero => simp
      | succ m ih => rw [List.range_succ, List.map_append, List.sum_append]; simp only [List.map_cons, List.map_nil, List.sum_cons, List.sum_nil]; have := hf m; rw [Nat.succ_mul]; omega
    refine Nat.le_trans (this _ ds.length (fun r => ?_)) (by rw [Nat.pow_succ, Nat.mul_comm]; exact Nat.le_refl _)
    split
    · exact smL_len cs ds d _
    · simp
theorem smooths_few {cs ds : List Nat} (hc : Codes cs) (hd : Codes ds) : (smoothsN cs ds).length ≤ 46656 := by
  refine Nat.le_trans (smL_len cs ds _ _) ?_
  refine Nat.le_trans (Nat.pow_le_pow_left hd.2.1 _) ?_
  exact Nat.le_trans (Nat.pow_le_pow_right (by omega) hc.2.1) (by decide)
theorem wrap_next {α : Type} (pre : List α) (x : α) : wrap64 (((pre ++ [x]).length : Nat) : Int) = wrap64 (wrap64 pre.length + 1) := by simp only [List.length_append, List.length_singleton]; push_cast; unfold wrap64; omega
theorem wrap64_small {k : Int} (h1 : -9223372036854775808 ≤ k) (h2 : k ≤ 9223372036854775807) : wrap64 k = k := by unfold wrap64; omega

set_option maxRecDepth 100000 in
set_option maxHeartbeats 1600000 in
theorem Smooth_yes (v u : Value) (cs ds : List Nat) (w : World) (hr : Reads w v (ofNats cs)) (hru : Reads w u (ofNats ds)) (hc : Codes cs) (hd : Codes ds) (hsp : spaceB cs = true) (hsq : spaceB ds = true) (hT : Tab w) :
    Calls Tryd.prog 13 #[v, u] w fun e w' => e = .returned (.tuple #[.int .i64 (smoothsN cs ds).length, .int .i64 0]) ∧ Below w.heap.size w w' := by
  have hr0 := hr
  have hru0 := hru
  obtain ⟨a, cap, rfl, _, _, _⟩ := hr.open
  obtain ⟨a2, cap2, rfl, _, _, _⟩ := hru.open
  clear hr hru
  refine (callsIn_wide (n := 20)).1 ?_
  refine callsIn_of_wp_marks Tryd.func13 rfl trivial ?_ rfl
  simp only [Tryd.ntmps13, List.size_toArray, List.length_cons, List.length_nil, Nat.reduceAdd, Nat.reduceSub, Array.replicate_succ, Array.replicate_zero, List.push_toArray, List.append_toArray, List.nil_append, List.cons_append]
  gi_wp2_with fail
  refine ⟨trivial, (callsIn_wide.2 (newSpace_yes _ cs _ hr0 hc hsp hT)).mono ?_⟩
  rintro e w1 ⟨rfl, hb1⟩
  obtain ⟨hs1, hb2⟩ := lay_sp hb1 cs.length (cell cs)
  have hT2 := hT.below hb2
  have hru2 := hru0.below hb2
  gi_wp2_with fail
  generalize hW : World.alloc w1 _ = W at *
  generalize hX : w1.heap.size = Bx at *
  clear hW hX
  refine ⟨trivial, (callsIn_wide.2 (newSpace_yes _ ds _ hru2 hd hsq hT2)).mono ?_⟩
  rintro e w2 ⟨rfl, hb3⟩
  obtain ⟨hs2, hb4⟩ := lay_sp hb3 ds.length (cell ds)
  have hs1' := hs1.below hb4
  have hb5 := below_to hb2 hb2.size hb4
  have hal := (Below.refl _ (w2.alloc (.cells #[.int .i64 ds.length, .int .u64 (cell ds 0), .int .u64 (cell ds 1), .int .u64 (cell ds 2), .int .u64 (cell ds 3), .int .u64 (cell ds 4), .int .u64 (cell ds 5)] 35))).alloc (Nat.le_refl _) (.cells #[.int .i64 0] 3)
  have h1 := hs1'.below hal
  have h2 := hs2.below hal
  have hb6 := below_to hb5 hb5.size hal
  have hbx := hs1'.lt
  have hwx : w.heap.size ≤ w2.heap.size := Nat.le_trans hb2.size hb3.size
  obtain ⟨d0, d1, d2, d3, d4, d5, d6⟩ := h1.cells
  obtain ⟨e0, e1, e2, e3, e4, e5, e6⟩ := h2.cells
  have hn0 : ((w2.alloc (.cells #[.int .i64 ds.length, .int .u64 (cell ds 0), .int .u64 (cell ds 1), .int .u64 (cell ds 2), .int .u64 (cell ds 3), .int .u64 (cell ds 4), .int .u64 (cell ds 5)] 35)).alloc (.cells #[.int .i64 0] 3)).heap[w2.heap.size + 1]? = some (.cells #[.int .i64 0] 3) := heap_alloc_at _ _ _ (by simp)
  have HN0 := Lib.hid hn0
  clear hs1 hb1 hb3 hb4 hb2 hr0 hru0 hru2 hT2 hs1' hs2 h1 h2 hal hn0 hb5
  gi_wp2_with fail
  clear d0 d1 d2 d3 d4 d5 d6 e0 e1 e2 e3 e4 e5 e6
  generalize hW3 : World.alloc (World.alloc w2 _) _ = W3 at *
  have hsz : W3.heap.size = w2.heap.size + 2 := by rw [← hW3]; simp
  clear hW3
  refine ⟨trivial, (callsIn_wide.2 (smooth_any cs ds _)).mono ?_⟩
  rintro e w3 ⟨rfl, h1, h2, h3, h4⟩
  have hn := (h3.block _ (heap_lt HN0.out)).trans HN0.out
  have hbW := below_to hb6 hb6.size h3
  clear HN0
  rw [hsz] at h1 h2 ⊢
  generalize hBn : w2.heap.size = Bn at *
  gi_wp2_with fail
  have hsz3 : w3.heap.size = Bn + 4 := by omega
  have hb0 : w3.heap[Bn + 1]? = some (.cells #[.int .i64 0] 3) := hn
  have hL := smooths_few hc hd
  refine range_imgs (gf := 34) (lb := #[.pointer (some ⟨Bn + 2, 0, none⟩), .pointer (some ⟨Bn + 2 + 1, 0, none⟩)]) rfl (enters_of Tryd.func34 (by kernel_rfl) rfl)
    (smooth1_given (fun b => b = Bn + 1 ∨ b = w3.heap.size ∨ b = w3.heap.size + 1) cs ds hc hd (Bn + 2) (Bn + 2 + 1) _ w3 (by omega) (by omega) (by omega) h1 h2)
    (fun A => KeepX.refl _ _) (fun h k => KeepX.trans h k) (fun W o' => KeepX.putObj (.inr (.inr rfl))) (fun _ => rfl)
    (fun pre W => W.heap[Bn + 1]? = some (.cells #[.int .i64 (wrap64 pre.length)] 3) ∧ Below w.heap.size w W)
    (fun c pre W => False) ?a1 ?hI (fun c s W W' row h _ _ => h) ?hIB ⟨by rw [show wrap64 ((([] : List (List Nat)).length : Nat) : Int) = 0 from wrap64_small (by simp) (by simp)]; exact hb0, hbW⟩
    ?assign ?body (fun pre x a' s W W' row h _ _ => h) ?done ?stop
  case assign =>
    intro l x W K hK
    simp only [imgEnc]
    gi_wp2
    exact hK
  case hI =>
    rintro s W W' row ⟨h1, h2⟩ hg hr
    exact ⟨own_block hg hr (by omega) h1, h2.grown hg h2.size (fun k e => by have := (hr k e).1; omega)⟩
  case hIB =>
    rintro s W b j v hb ⟨h1, h2⟩
    exact ⟨(heap_setCell_other _ _ _ _ (by show Bn + 1 ≠ b; omega)).trans h1, h2.setCell (p := ⟨b, j, none⟩) (by show w.heap.size ≤ b; omega) _⟩
  case body =>
    rintro l pre x W hl ⟨h1, h2⟩ hx
    have c1 := cell_of h1 (j := 0) rfl
    have f1 := free_of h1 0
    gi_wp2
    have hk : KeepsFrom w3.heap.size W (W.setCell ⟨Bn + 1, 0, none⟩ (.int .i64 (wrap64 (wrap64 pre.length + 1)))) := (KeepsOthers.setCell _ _ _).from _
    refine ⟨hk, ⟨by simp, fun b hb hx => ?_⟩, ?_, h2.setCell (p := ⟨Bn + 1, 0, none⟩) (by show w.heap.size ≤ Bn + 1; omega) _⟩
    · exact heap_setCell_other _ _ _ _ (fun e => hx (.inl e))
    · rw [show wrap64 (((pre ++ [x]).length : Nat) : Int) = wrap64 (wrap64 pre.length + 1) from wrap_next pre x]
      exact set_same h1
  case done =>
    rintro D zs W hD rfl ⟨h1, h2⟩ hK
    have hlen : wrap64 (smoothsN cs ds).length = (smoothsN cs ds).length := wrap64_small (by omega) (by omega)
    rw [hlen] at h1
    have c1 := cell_of h1 (j := 0) rfl
    clear hlen
    gi_wp2
    refine ⟨by simp, .inl ⟨_, _, rfl, run_takeDeferred hK, ?_⟩⟩
    refine ⟨_, results_tmp2 rfl _ _ _, rfl, ?_⟩
    exact h2.trans (belowK_b (w := w) (Nat.le_refl _) _ D _ _ (by omega) hK rfl rfl)
  case stop =>
    rintro D c pre W hD hpre h
    exact h.elim
end Go.Proofs.YtfhcbaamibipcaaDoor
