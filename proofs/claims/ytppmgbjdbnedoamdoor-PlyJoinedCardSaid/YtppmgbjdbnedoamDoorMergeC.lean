import Derived.Test.YtppmgbjdbnedoamDoorMergeA
import Derived.Test.YtppmgbjdbnedoamDoorMergeB
/- ply: smooth, and Smooth. -/
set_option linter.unusedVariables false
set_option linter.unusedSimpArgs false
namespace Go.Proofs.YtppmgbjdbnedoamDoor
open Go.RowKit Go.Shelf
attribute [local go_sem] Oper.semAt_some

set_option maxRecDepth 100000 in
theorem smooth_any (cs ds : List Nat) (w : World) :
    Calls Tryd.prog 27 #[spV cs, spV ds] w fun e w' => e = .returned (.func (.func 40) #[] #[.pointer (some ⟨w.heap.size, 0, none⟩), .pointer (some ⟨w.heap.size + 1, 0, none⟩)]) ∧ SpF w' w.heap.size cs.length (cell cs) ∧ SpF w' (w.heap.size + 1) ds.length (cell ds) ∧ Below w.heap.size w w' ∧ w'.heap.size = w.heap.size + 2 := by
  go_enter Tryd.func27, Tryd.ntmps27
  go_wp2_with fail
  go_ret
  exact ⟨rfl, alloc_old (heap_alloc_new _ _), heap_alloc_at _ _ _ (by simp), ((Below.refl _ _).alloc (Nat.le_refl _) _).alloc (by simp) _, by simp⟩

def imgEnc (x : List Nat) : Array Value := #[imF (cell x)]
def smoothsN (cs ds : List Nat) : List (List Nat) := smL cs ds cs.length []

set_option maxRecDepth 100000 in
set_option maxHeartbeats 1600000 in
theorem smooth1_given (X : Nat → Prop) (cs ds : List Nat) (hc : Codes cs) (hd : Codes ds) (Bx Bz m : Nat) (w : World)
    (hX : ∀ b, X b → b < w.heap.size + 2) (hXx : ¬ X Bx) (hXz : ¬ X Bz) (hBx : SpF w Bx cs.length (cell cs)) (hBz : SpF w Bz ds.length (cell ds)) :
    GivenB m Tryd.prog 40 #[.pointer (some ⟨Bx, 0, none⟩), .pointer (some ⟨Bz, 0, none⟩)] imgEnc (KeepX X) (fun zs => zs = smoothsN cs ds) (fun zs => zs <+: smoothsN cs ds) (fun pre x W => x.length = cs.length) w := by
  intro l J Jx W hW hWs hJ hJx hJB hY h0
  refine CallsIn.any (m := 9) _ ?_
  have hBx1 : SpF W Bx cs.length (cell cs) := (hW.block Bx hBx.lt).trans hBx
  have hBz1 : SpF W Bz ds.length (cell ds) := (hW.block Bz hBz.lt).trans hBz
  refine (callsIn_of_wp Tryd.func40 rfl trivial ?_ rfl)
  simp only [Tryd.ntmps40, List.size_toArray, List.length_cons, List.length_nil, Nat.reduceAdd, Nat.reduceSub, Array.replicate_succ, Array.replicate_zero, List.push_toArray, List.append_toArray, List.nil_append, List.cons_append]
  gi_wp2_with fail
  have hXW : ∀ b, X b → b < W.heap.size := fun b hb => Nat.lt_of_lt_of_le (hX b hb) hWs
  have hYok : YieldI X cs.length l J Jx := fun pre x W1 h1 h2 => by
    obtain ⟨fn, tmps, ca, bd, h3, h4⟩ := hY pre x W1 h1 h2
    exact ⟨fn, tmps, ca, bd, h3, RoundIn.any 0 h4⟩
  generalize hW2 : World.alloc (World.alloc W _) _ = W2
  have hbW : Below W.heap.size W W2 := by rw [← hW2]; exact ((Below.refl _ _).alloc (Nat.le_refl _) _).alloc (by simp) _
  have hcap : CapsI X cs ds l Bx W.heap.size Bz (W.heap.size + 1) W2 := by
    refine ⟨hBx1.below hbW, ?_, hBz1.below hbW, ?_, hXx, fun h => by have := hXW _ h; omega, hXz, fun h => by have := hXW _ h; omega⟩
    · rw [← hW2]; exact alloc_old (heap_alloc_new _ _)
    · rw [← hW2]; exact heap_alloc_at _ _ _ (by simp)
  clear hW2
  have hj2 : J [] W2 := hJ _ _ _ none h0 (below_grown0 hbW) (fun _ e => by cases e)
  refine ⟨trivial, (CallsIn.any 8 (extend_in X cs ds hc hd l Bx W.heap.size Bz (W.heap.size + 1) W.heap.size hXW J Jx hJ hJB hYok cs.length [] W2 [] (by simp) (by simp) hbW.size hcap hj2)).mono ?_⟩
  rintro e W' ⟨c, rfl, hext⟩
  have HE := Lib.hid hext
  clear hext
  gi_wp2_with fail
  go_end0
  refine ⟨⟨_, rfl⟩, ?_⟩
  cases c
  · obtain ⟨ys, g1, g2⟩ := HE.out.2.2 rfl
    exact .inr ⟨ys, g1, by simpa using g2⟩
  · exact .inl ⟨_, rfl, by simpa [smoothsN] using HE.out.2.1 rfl⟩

theorem smL_len (cs ds : List Nat) : ∀ d l, (smL cs ds d l).length ≤ ds.length ^ d
  | 0, l => by simp [smL]
  | d + 1, l => by
    simp only [smL]
    rw [List.length_flatMap]
    have : ∀ (f : Nat → Nat) (m : Nat), (∀ r, f r ≤ ds.length ^ d) → ((List.range m).map f).sum ≤ m * ds.length ^ d := by
      intro f m hf
      induction m with
      | zero => simp
      | succ m ih => rw [List.range_succ, List.map_append, List.sum_append]; simp only [List.map_cons, List.map_nil, List.sum_cons, List.sum_nil]; have := hf m; rw [Nat.succ_mul]; omega
    refine Nat.le_trans (this _ ds.length (fun r => ?_)) (by rw [Nat.pow_succ, Nat.mul_comm]; exact Nat.le_refl _)
    split
    · exact smL_len cs ds d _
    · simp
theorem smooths_few {cs ds : List Nat} (hc : Codes cs) (hd : Codes ds) : (smoothsN cs ds).length ≤ 46656 := by
  refine Nat.le_trans (smL_len cs ds _ _) ?_
  refine Nat.le_trans (Nat.pow_le_pow_left hd.2.1 _) ?_
  exact Nat.le_trans (Nat.pow_le_pow_right (by omega) hc.2.1) (by decide)
theorem wrap_next {α : Type} (pre : List α) (x : α) : wrap64 (((pre ++ [x]).length : Nat) : Int) = wrap64 (wrap64 pre.length + 1) := by simp only [List.length_append, List.length_singleton]; push_cast; unfold wrap64; omega
theorem wrap64_small {k : Int} (h1 : -9223372036854775808 ≤ k) (h2 : k ≤ 9223372036854775807) : wrap64 k = k := by unfold wrap64; omega

set_option maxRecDepth 100000 in
set_option maxHeartbeats 1600000 in
theorem Smooth_yes (v u : Value) (cs ds : List Nat) (w : World) (hr : Reads w v (ofNats cs)) (hru : Reads w u (ofNats ds)) (hc : Codes cs) (hd : Codes ds) (hsp : spaceB cs = true) (hsq : spaceB ds = true) (hT : Tab w) :
    Calls Tryd.prog 15 #[v, u] w fun e w' => e = .returned (.tuple #[.int .i64 (smoothsN cs ds).length, .int .i64 0]) ∧ Below w.heap.size w w' := by
  have hr0 := hr
  have hru0 := hru
  obtain ⟨a, cap, rfl, _, _, _⟩ := hr.open
  obtain ⟨a2, cap2, rfl, _, _, _⟩ := hru.open
  clear hr hru
  refine (callsIn_wide (n := 20)).1 ?_
  refine callsIn_of_wp_marks Tryd.func15 rfl trivial ?_ rfl
  simp only [Tryd.ntmps15, List.size_toArray, List.length_cons, List.length_nil, Nat.reduceAdd, Nat.reduceSub, Array.replicate_succ, Array.replicate_zero, List.push_toArray, List.append_toArray, List.nil_append, List.cons_append]
  gi_wp2_with fail
  refine ⟨trivial, (callsIn_wide.2 (newSpace_yes _ cs _ hr0 hc hsp hT)).mono ?_⟩
  rintro e w1 ⟨rfl, hb1⟩
  obtain ⟨hs1, hb2⟩ := lay_sp hb1 cs.length (cell cs)
  have hT2 := hT.below hb2
  have hru2 := hru0.below hb2
  gi_wp2_with fail
  generalize hW : World.alloc w1 _ = W at *
  generalize hX : w1.heap.size = Bx at *
  clear hW hX
  refine ⟨trivial, (callsIn_wide.2 (newSpace_yes _ ds _ hru2 hd hsq hT2)).mono ?_⟩
  rintro e w2 ⟨rfl, hb3⟩
  obtain ⟨hs2, hb4⟩ := lay_sp hb3 ds.length (cell ds)
  have hs1' := hs1.below hb4
  have hb5 := below_to hb2 hb2.size hb4
  have hal := (Below.refl _ (w2.alloc (.cells #[.int .i64 ds.length, .int .u64 (cell ds 0), .int .u64 (cell ds 1), .int .u64 (cell ds 2), .int .u64 (cell ds 3), .int .u64 (cell ds 4), .int .u64 (cell ds 5)] 35))).alloc (Nat.le_refl _) (.cells #[.int .i64 0] 3)
  have h1 := hs1'.below hal
  have h2 := hs2.below hal
  have hb6 := below_to hb5 hb5.size hal
  have hbx := hs1'.lt
  have hwx : w.heap.size ≤ w2.heap.size := Nat.le_trans hb2.size hb3.size
  obtain ⟨d0, d1, d2, d3, d4, d5, d6⟩ := h1.cells
  obtain ⟨e0, e1, e2, e3, e4, e5, e6⟩ := h2.cells
  have hn0 : ((w2.alloc (.cells #[.int .i64 ds.length, .int .u64 (cell ds 0), .int .u64 (cell ds 1), .int .u64 (cell ds 2), .int .u64 (cell ds 3), .int .u64 (cell ds 4), .int .u64 (cell ds 5)] 35)).alloc (.cells #[.int .i64 0] 3)).heap[w2.heap.size + 1]? = some (.cells #[.int .i64 0] 3) := heap_alloc_at _ _ _ (by simp)
  have HN0 := Lib.hid hn0
  clear hs1 hb1 hb3 hb4 hb2 hr0 hru0 hru2 hT2 hs1' hs2 h1 h2 hal hn0 hb5
  gi_wp2_with fail
  clear d0 d1 d2 d3 d4 d5 d6 e0 e1 e2 e3 e4 e5 e6
  generalize hW3 : World.alloc (World.alloc w2 _) _ = W3 at *
  have hsz : W3.heap.size = w2.heap.size + 2 := by rw [← hW3]; simp
  clear hW3
  refine ⟨trivial, (callsIn_wide.2 (smooth_any cs ds _)).mono ?_⟩
  rintro e w3 ⟨rfl, h1, h2, h3, h4⟩
  have hn := (h3.block _ (heap_lt HN0.out)).trans HN0.out
  have hbW := below_to hb6 hb6.size h3
  clear HN0
  rw [hsz] at h1 h2 ⊢
  generalize hBn : w2.heap.size = Bn at *
  gi_wp2_with fail
  have hsz3 : w3.heap.size = Bn + 4 := by omega
  have hb0 : w3.heap[Bn + 1]? = some (.cells #[.int .i64 0] 3) := hn
  have hL := smooths_few hc hd
  refine range_imgs (gf := 40) (lb := #[.pointer (some ⟨Bn + 2, 0, none⟩), .pointer (some ⟨Bn + 2 + 1, 0, none⟩)]) rfl (enters_of Tryd.func40 (by kernel_rfl) rfl)
    (smooth1_given (fun b => b = Bn + 1 ∨ b = w3.heap.size ∨ b = w3.heap.size + 1) cs ds hc hd (Bn + 2) (Bn + 2 + 1) _ w3 (by omega) (by omega) (by omega) h1 h2)
    (fun A => KeepX.refl _ _) (fun h k => KeepX.trans h k) (fun W o' => KeepX.putObj (.inr (.inr rfl))) (fun _ => rfl)
    (fun pre W => W.heap[Bn + 1]? = some (.cells #[.int .i64 (wrap64 pre.length)] 3) ∧ Below w.heap.size w W)
    (fun c pre W => False) ?a1 ?hI (fun c s W W' row h _ _ => h) ?hIB ⟨by rw [show wrap64 ((([] : List (List Nat)).length : Nat) : Int) = 0 from wrap64_small (by simp) (by simp)]; exact hb0, hbW⟩
    ?assign ?body (fun pre x a' s W W' row h _ _ => h) ?done ?stop
  case assign =>
    intro l x W K hK
    simp only [imgEnc]
    gi_wp2
    exact hK
  case hI =>
    rintro s W W' row ⟨h1, h2⟩ hg hr
    exact ⟨own_block hg hr (by omega) h1, h2.grown hg h2.size (fun k e => by have := (hr k e).1; omega)⟩
  case hIB =>
    rintro s W b j v hb ⟨h1, h2⟩
    exact ⟨(heap_setCell_other _ _ _ _ (by show Bn + 1 ≠ b; omega)).trans h1, h2.setCell (p := ⟨b, j, none⟩) (by show w.heap.size ≤ b; omega) _⟩
  case body =>
    rintro l pre x W hl ⟨h1, h2⟩ hx
    have c1 := cell_of h1 (j := 0) rfl
    have f1 := free_of h1 0
    gi_wp2
    have hk : KeepsFrom w3.heap.size W (W.setCell ⟨Bn + 1, 0, none⟩ (.int .i64 (wrap64 (wrap64 pre.length + 1)))) := (KeepsOthers.setCell _ _ _).from _
    refine ⟨hk, ⟨by simp, fun b hb hx => ?_⟩, ?_, h2.setCell (p := ⟨Bn + 1, 0, none⟩) (by show w.heap.size ≤ Bn + 1; omega) _⟩
    · exact heap_setCell_other _ _ _ _ (fun e => hx (.inl e))
    · rw [show wrap64 (((pre ++ [x]).length : Nat) : Int) = wrap64 (wrap64 pre.length + 1) from wrap_next pre x]
      exact set_same h1
  case done =>
    rintro D zs W hD rfl ⟨h1, h2⟩ hK
    have hlen : wrap64 (smoothsN cs ds).length = (smoothsN cs ds).length := wrap64_small (by omega) (by omega)
    rw [hlen] at h1
    have c1 := cell_of h1 (j := 0) rfl
    clear hlen
    gi_wp2
    refine ⟨by simp, .inl ⟨_, _, rfl, run_takeDeferred hK, ?_⟩⟩
    refine ⟨_, results_tmp2 rfl _ _ _, rfl, ?_⟩
    exact h2.trans (belowK_b (w := w) (Nat.le_refl _) _ D _ _ (by omega) hK rfl rfl)
  case stop =>
    rintro D c pre W hD hpre h
    exact h.elim
end Go.Proofs.YtppmgbjdbnedoamDoor

/- ply: Smooth, where one of the lists is no space. -/
set_option linter.unusedVariables false
set_option linter.unusedSimpArgs false
namespace Go.Proofs.YtppmgbjdbnedoamDoor
open Go.RowKit Go.Shelf
attribute [local go_sem] Oper.semAt_some

/-- newSpace at any list -/
theorem newSpace_all (v : Value) (l : List Int) (w : World) (hr : Reads w v l) (hT : Tab w) :
    Calls Tryd.prog 17 #[v] w fun e w' => ∃ n c, e = .returned (.tuple #[spF n c, .bool (spL l)]) ∧ Below w.heap.size w w' := by
  rcases h : spL l with _ | _
  · exact newSpace_no v l w hr h hT
  · obtain ⟨cs, rfl, hc, hs⟩ : ∃ cs, l = ofNats cs ∧ Codes cs ∧ spaceB cs = true := by
      have := spL_get h
      exact ⟨_, this.2.2, this.1, this.2.1⟩
    exact (newSpace_yes v cs w hr hc hs hT).mono fun e w' hh => ⟨_, _, hh.1, hh.2⟩
set_option maxRecDepth 100000 in
set_option maxHeartbeats 1600000 in
theorem Smooth_no (v u : Value) (l m : List Int) (w : World) (hr : Reads w v l) (hru : Reads w u m) (h : (spL l && spL m) = false) (hT : Tab w) :
    Calls Tryd.prog 15 #[v, u] w fun e w' => e = .returned (.tuple #[.int .i64 0, .int .i64 2]) ∧ Below w.heap.size w w' := by
  have hr0 := hr
  have hru0 := hru
  obtain ⟨a, cap, rfl, _, _, _⟩ := hr.open
  obtain ⟨a2, cap2, rfl, _, _, _⟩ := hru.open
  clear hr hru
  refine (callsIn_wide (n := 20)).1 ?_
  refine callsIn_of_wp_marks Tryd.func15 rfl trivial ?_ rfl
  simp only [Tryd.ntmps15, List.size_toArray, List.length_cons, List.length_nil, Nat.reduceAdd, Nat.reduceSub, Array.replicate_succ, Array.replicate_zero, List.push_toArray, List.append_toArray, List.nil_append, List.cons_append]
  gi_wp2_with fail
  refine ⟨trivial, (callsIn_wide.2 (newSpace_all _ l _ hr0 hT)).mono ?_⟩
  rintro e w1 ⟨n, c, rfl, hb1⟩
  obtain ⟨hs1, hb2⟩ := lay_sp hb1 n c
  have hT2 := hT.below hb2
  have hru2 := hru0.below hb2
  gi_wp2_with fail
  generalize hW : World.alloc w1 _ = W at *
  clear hW
  refine ⟨trivial, (callsIn_wide.2 (newSpace_all _ m _ hru2 hT2)).mono ?_⟩
  rintro e w2 ⟨n2, c2, rfl, hb3⟩
  obtain ⟨hs2, hb4⟩ := lay_sp hb3 n2 c2
  have hb5 := below_to hb2 hb2.size hb4
  clear hs1 hs2
  rcases h1 : spL l with _ | _
  · gi_wp2_with fail
    refine leave_marks (B := w.heap.size) [] w.heap.size _ trivial fun w' hs => ?_
    exact ⟨_, results_tmp2 rfl _ _ _, rfl, hb5.trans hs.below⟩
  · rw [h1, Bool.true_and] at h
    rw [h]
    gi_wp2_with fail
    refine leave_marks (B := w.heap.size) [] w.heap.size _ trivial fun w' hs => ?_
    exact ⟨_, results_tmp2 rfl _ _ _, rfl, hb5.trans hs.below⟩
end Go.Proofs.YtppmgbjdbnedoamDoor

/- ply: Opens. -/
set_option linter.unusedVariables false
set_option linter.unusedSimpArgs false
namespace Go.Proofs.YtppmgbjdbnedoamDoor
open Go.RowKit

set_option maxRecDepth 100000 in
set_option maxHeartbeats 1600000 in
theorem Opens_yes (v : Value) (cs : List Nat) (w : World) (hr : Reads w v (ofNats cs)) (hc : Codes cs) (hsp : spaceB cs = true) (hT : Tab w) :
    Calls Tryd.prog 12 #[v] w fun e w' => ∃ v', e = .returned (.tuple #[v', .int .i64 0]) ∧ Col w w' v' (ofNats (opensN cs)) := by
  have hr0 := hr
  obtain ⟨a, cap, rfl, _, _, _⟩ := hr.open
  clear hr
  have hn6 := hc.2.1
  obtain ⟨N, hN⟩ : ∃ N, 2 ^ cs.length = N := ⟨_, rfl⟩
  have hN64 : N ≤ 64 := by rw [← hN]; exact Nat.pow_le_pow_right (n := 2) (by omega) hn6
  have HN : Hid (openTo cs N = opensN cs) := Lib.hid (by rw [← hN]; rfl)
  have hN1 : IntKind.u64.wrap ((allN cs.length : Nat) + 1 : Int) = (N : Int) := by
    have h1 : allN cs.length + 1 = N := by unfold allN; have := Nat.two_pow_pos cs.length; omega
    rw [show ((allN cs.length : Nat) + 1 : Int) = ((allN cs.length + 1 : Nat) : Int) by push_cast; rfl, h1]
    exact wrapU N (by omega)
  have HFIX : Hid (∀ k, k < N → (insideN cs k = k ↔ openB cs k = true)) := Lib.hid (fun k hk => inside_fix (by rw [hN]; exact hk))
  have HLT : Hid (∀ k, k < N → k < 2 ^ cs.length) := Lib.hid (fun k hk => by rw [hN]; exact hk)
  have HC := Lib.hid hc
  clear hN
  go_enter Tryd.func12, Tryd.ntmps12
  go_wp2_with fail
  refine (newSpace_yes _ cs _ hr0 hc hsp hT).mono ?_
  rintro e w1 ⟨rfl, hb1⟩
  obtain ⟨hs1, hb2⟩ := lay_sp hb1 cs.length (cell cs)
  go_wp2_with fail
  generalize hW : World.alloc w1 _ = W at *
  clear hW
  obtain ⟨d0, d1, d2, d3, d4, d5, d6⟩ := hs1.cells
  go_wp2_with fail
  refine (all_any cs _ hn6).mono ?_
  rintro e w2 ⟨rfl, hb3⟩
  have hs2 := hs1.below hb3
  have hb4 := below_to hb2 hb2.size hb3
  have hlt := hs1.lt
  generalize w1.heap.size = B1 at *
  clear hs1 d0 d1 d2 d3 d4 d5 d6 hb1 hb2 hb3 hr0
  go_wp2_with fail
  go_loopw [6, 18] (fun v i wr => ∃ k : Nat, k ≤ N ∧ i = .int .u64 k ∧ Col w wr v (ofNats (openTo cs k)) ∧ SpF wr B1 cs.length (cell cs)) (fun _ i _ => N - (intOf i).toNat)
  case atStart => exact ⟨0, by omega, rfl, ⟨World.ownsRow_nil _ _ _ _, hb4⟩, hs2⟩
  case round =>
    obtain ⟨k, hk, rfl, hcol, hsr⟩ := hrel
    have HCOL := Lib.hid hcol
    have HSR := Lib.hid hsr
    by_cases hlt2 : k < N
    · obtain ⟨d0, d1, d2, d3, d4, d5, d6⟩ := hsr.cells
      have k1 : (k : Int) < (N : Int) := by omega
      have hw1 : IntKind.u64.wrap ((k : Int) + 1) = ((k + 1 : Nat) : Int) := by
        rw [show ((k : Int) + 1) = ((k + 1 : Nat) : Int) by push_cast; rfl]
        exact wrapU (k + 1) (by omega)
      have hwi := wrapI k (by omega)
      have hst := openTo_succ cs k
      have hfx := HFIX.out k hlt2
      have hkn := HLT.out k hlt2
      clear hcol hsr
      rcases hop : openB cs k with _ | _
      · have hne : ¬ insideN cs k = k := fun e => by rw [hfx.1 e] at hop; cases hop
        have hne2 : ((insideN cs k : Int) == (k : Int)) = false := by
          rw [beq_eq_false_iff_ne]; intro e; apply hne; exact_mod_cast e
        rw [hop] at hst
        have HS := Lib.hid hst
        clear hst hop hfx hne
        go_wp2_with fail
        refine (inside_any cs k _ HC.out hkn (hT.below HCOL.out.below)).mono ?_
        rintro e w3 ⟨rfl, hb5⟩
        go_wp2_with fail
        go_roundw
        case rel => exact ⟨k + 1, by omega, by go_num, by rw [HS.out]; simpa using HCOL.out.step hb5, HSR.out.below hb5⟩
        case measure => simp [intOf]; omega
      · have heq : insideN cs k = k := hfx.2 hop
        rw [hop, if_pos rfl] at hst
        have HS := Lib.hid hst
        have HEQ := Lib.hid heq
        have HL : Hid ((ofNats (openTo cs k)).length ≤ 1000000000) := Lib.hid (by have := openTo_len cs k; omega)
        clear hst hop hfx heq
        go_wp2_with fail
        refine (inside_any cs k _ HC.out hkn (hT.below HCOL.out.below)).mono ?_
        rintro e w3 ⟨rfl, hb5⟩
        rw [HEQ.out]
        have HC3 := Lib.hid (HCOL.out.step hb5)
        have HS3 := Lib.hid (HSR.out.below hb5)
        go_wp2_with (at_builtin; refine append_intK rfl _ _ rfl HC3.out rfl _ rfl HL.out ?_; intro v' w' hcol' hne hkeep)
        go_roundw
        case rel => exact ⟨k + 1, by omega, by go_num, by rw [HS.out]; exact hcol', hkeep.sp HS3.out⟩
        case measure => simp [intOf]; omega
    · obtain rfl : k = N := by omega
      have k1 : ¬ (k : Int) < (k : Int) := by omega
      clear hcol hsr
      go_wp2_with fail
      go_ret2
      exact ⟨_, rfl, by rw [← HN.out]; exact HCOL.out⟩
set_option maxRecDepth 100000 in
theorem Opens_no (v : Value) (l : List Int) (w : World) (hr : Reads w v l) (h : spL l = false) (hT : Tab w) :
    Calls Tryd.prog 12 #[v] w fun e w' => e = .returned (.tuple #[.slice none 0 0, .int .i64 2]) ∧ Below w.heap.size w w' := by
  have hr0 := hr
  obtain ⟨a, cap, rfl, _, _, _⟩ := hr.open
  clear hr
  go_enter Tryd.func12, Tryd.ntmps12
  go_wp2_with fail
  refine (newSpace_no _ l _ hr0 h hT).mono ?_
  rintro e w1 ⟨n, c, rfl, hb1⟩
  obtain ⟨hs1, hb2⟩ := lay_sp hb1 n c
  go_wp2_with fail
  go_ret2
  exact ⟨rfl, hb2⟩
end Go.Proofs.YtppmgbjdbnedoamDoor

/- ply: ints and awake, what every statement looks at. -/
set_option linter.unusedVariables false
set_option linter.unusedSimpArgs false
namespace Go.Proofs.YtppmgbjdbnedoamDoor
open Go.RowKit

theorem take_eq_succ {xs ys : List Int} {k : Nat} (h1 : k < xs.length) (h2 : k < ys.length) (h : xs.take k = ys.take k) (he : gi xs k = gi ys k) : xs.take (k + 1) = ys.take (k + 1) := by
  rw [List.take_succ_eq_append_getElem h1, List.take_succ_eq_append_getElem h2, h, ← gi_lt h1, ← gi_lt h2, he]

set_option maxRecDepth 100000 in
set_option maxHeartbeats 800000 in
theorem ints_any (v u : Value) (xs ys : List Int) (w : World) (hr : Reads w v xs) (hs : Reads w u ys) :
    Calls Tryd.prog 7 #[v, u] w fun e w' => e = .returned (.bool (decide (xs = ys))) ∧ ∃ n, w' = w.drewN n := by
  obtain ⟨a, cap, rfl, h1, h2, hcell⟩ := hr.open
  obtain ⟨a2, cap2, rfl, h12, h22, hcell2⟩ := hs.open
  have h3 : xs.length ≤ 9223372036854775807 := by unfold maxLen at h2; omega
  clear h2 h22
  by_cases hl : xs.length = ys.length
  · have hl' : ((xs.length : Int) == (ys.length : Int)) = true := by simp [hl]
    have hl2 : (!((xs.length : Int) == (ys.length : Int))) = false := by simp [hl]
    have HL := Lib.hid hl
    clear hl
    go_enter Tryd.func7, Tryd.ntmps7
    go_wp2_with fail
    go_loopw [5] (fun i wr => ∃ k m : Nat, k ≤ xs.length ∧ i = .int .i64 k ∧ xs.take k = ys.take k ∧ wr = w.drewN m) (fun i _ => xs.length - (intOf i).toNat)
    case atStart => exact ⟨0, 0, by omega, rfl, by simp, rfl⟩
    case round =>
      obtain ⟨k, m, hk, rfl, ht, rfl⟩ := hrel
      have HT := Lib.hid ht
      clear ht
      by_cases hlt : k < xs.length
      · obtain ⟨b, off, rfl, hb, hc⟩ := hcell k hlt
        obtain ⟨b2, off2, rfl, hb2, hc2⟩ := hcell2 k (by have := HL.out; omega)
        clear hcell hcell2
        have hk0 : (0 : Int) ≤ (k : Int) := by omega
        have hk1 : (k : Int) < (xs.length : Int) := by omega
        have hk2 : (k : Int) < (ys.length : Int) := by have := HL.out; omega
        go_wp2_with fail
        go_quiet (fail)
        by_cases he : gi xs k = gi ys k
        · have he' : ((gi xs k) == (gi ys k)) = true := by simp [he]
          have HE := Lib.hid he
          clear he
          go_wp2
          go_roundw
          case rel => exact ⟨k + 1, _, by omega, by go_num, take_eq_succ hlt (by have := HL.out; omega) HT.out HE.out, rfl⟩
          case measure => simp [intOf]; omega
        · have he' : ((gi xs k) == (gi ys k)) = false := by simp [he]
          have HE := Lib.hid he
          clear he
          go_wp2
          go_ret
          refine ⟨ret_bool ?_, _, by first | rfl | exact World.drewN_drewN ..⟩
          symm
          rw [decide_eq_false_iff_not]
          rintro rfl; exact HE.out rfl
      · go_wp2_with fail
        go_ret
        refine ⟨ret_bool ?_, _, rfl⟩
        symm
        rw [decide_eq_true_eq]
        have h := HT.out
        have h9 := HL.out
        rwa [List.take_of_length_le (by omega), List.take_of_length_le (by omega)] at h
  · have hl' : ((xs.length : Int) == (ys.length : Int)) = false := by
      rw [beq_eq_false_iff_ne]; intro h; exact hl (by exact_mod_cast h)
    have HL := Lib.hid hl
    clear hl
    go_enter Tryd.func7, Tryd.ntmps7
    go_wp2_with fail
    go_ret
    refine ⟨ret_bool ?_, 0, rfl⟩
    symm
    rw [decide_eq_false_iff_not]
    rintro rfl; exact HL.out rfl

theorem ints_same (v u : Value) (xs : List Int) (w : World) (hr : Reads w v xs) (hs : Reads w u xs) :
    Calls Tryd.prog 7 #[v, u] w fun e w' => e = .returned (.bool true) ∧ ∃ n, w' = w.drewN n :=
  (ints_any v u xs xs w hr hs).mono fun e w' h => ⟨by rw [h.1, decide_eq_true rfl], h.2⟩
/-- a slice of no numbers shows its length -/
theorem reads_nil {w : World} {v : Value} (h : Reads w v []) : ∃ a cap, v = .slice a 0 cap := by
  obtain ⟨a, cap, h1, _⟩ := h
  exact ⟨a, cap, h1⟩

theorem reads_lit {w : World} {b : Nat} {xs : List Int} {cs : Array Value} {t : TypeId} (h : w.heap[b]? = some (.cells cs t)) (hc : cs = (xs.map (Value.int .i64)).toArray) (hl : xs.length ≤ 1000) : Reads w (.slice (some ⟨b, 0, none⟩) xs.length xs.length) xs := by
  subst hc
  refine ⟨_, xs.length, rfl, Nat.le_refl _, by simp [maxLen]; omega, .inr ⟨b, 0, rfl, heap_lt h, fun j hj => ?_⟩⟩
  rw [Nat.zero_add, cell_of_row _ _ _ _ _ _ h, gi_lt hj]
  simp [hj]

theorem codes_dec {cs : List Nat} (h : (decide (1 ≤ cs.length) && decide (cs.length ≤ 6) && cs.all fun x => decide (x < 2 ^ cs.length)) = true) : Codes cs := by
  simp only [Bool.and_eq_true, decide_eq_true_eq, List.all_eq_true] at h
  refine ⟨h.1.1, h.1.2, fun p => ?_⟩
  unfold cell
  by_cases hp : p < cs.length
  · have e : cs.getD p 0 = cs[p] := by simp [List.getD_eq_getElem?_getD, hp]
    rw [e]; exact h.2 _ (List.getElem_mem hp)
  · have e : cs.getD p 0 = 0 := by simp only [List.getD_eq_getElem?_getD]; rw [List.getElem?_eq_none (by omega)]; rfl
    rw [e]; exact Nat.two_pow_pos _
theorem cod13 : Codes [1, 3] := codes_dec (by decide)
theorem cod1 : Codes [1, 2, 7, 11] := codes_dec (by decide)
theorem aw1 : opensN [1, 3] = [0, 1, 3] := by kernel_rfl
theorem aw2 : closureN [1, 3] 1 = 3 := by kernel_rfl
theorem aw3 : bitsOf (coreN [1, 3]) = [1] := by kernel_rfl
theorem aw4 : (smoothsN [1, 3] [1, 3]).length = 3 := by kernel_rfl
theorem aw5 : wrap64 (sumTo (dnV [1, 2, 7, 11]) 4) = 0 := by kernel_rfl

set_option maxRecDepth 100000 in
set_option maxHeartbeats 3200000 in
theorem awake_any (w : World) (hT : Tab w) : Calls Tryd.prog 8 #[] w fun e w' => e = .returned (.bool true) ∧ Below w.heap.size w w' := by
  have r1 : Reads _ _ (ofNats [1, 3]) := reads_lit (xs := [1, 3]) (heap_alloc_new w (.cells #[.int .i64 1, .int .i64 3] 3)) rfl (by simp)
  have b1 := (Below.refl _ w).alloc (Nat.le_refl _) (.cells #[.int .i64 1, .int .i64 3] 3)
  go_enter Tryd.func8, Tryd.ntmps8
  go_wp2_with fail
  refine (Opens_yes _ [1, 3] _ r1 cod13 (by kernel_rfl) (hT.below b1)).mono ?_
  rintro e w1 ⟨v1, rfl, hc1⟩
  rw [aw1] at hc1
  have b2 := below_to b1 b1.size hc1.below
  have ro : Reads w1 v1 [0, 1, 3] := hc1.reads
  clear hc1 r1 b1
  go_wp2_with fail
  have r2 : Reads _ _ (ofNats [1, 3]) := reads_lit (xs := [1, 3]) (heap_alloc_new w1 (.cells #[.int .i64 1, .int .i64 3] 3)) rfl (by simp)
  have b3 := b2.alloc b2.size (.cells #[.int .i64 1, .int .i64 3] 3)
  have ro2 := ro.below ((Below.refl _ _).alloc (Nat.le_refl _) (.cells #[.int .i64 1, .int .i64 3] 3))
  refine (Closure_yes _ [1, 3] 1 _ r2 cod13 (by kernel_rfl) (by decide) (hT.below b3)).mono ?_
  rintro e w2 ⟨rfl, hb⟩
  rw [aw2]
  have b4 := below_to b3 b3.size hb
  have ro3 := ro2.below hb
  clear hb r2 b3 ro2 ro b2
  go_wp2_with fail
  have r3 : Reads _ _ (ofNats [1, 3]) := reads_lit (xs := [1, 3]) (heap_alloc_new w2 (.cells #[.int .i64 1, .int .i64 3] 3)) rfl (by simp)
  have b5 := b4.alloc b4.size (.cells #[.int .i64 1, .int .i64 3] 3)
  have ro4 := ro3.below ((Below.refl _ _).alloc (Nat.le_refl _) (.cells #[.int .i64 1, .int .i64 3] 3))
  refine (Core_yes _ [1, 3] _ r3 cod13 (by kernel_rfl) (hT.below b5)).mono ?_
  rintro e w3 ⟨v3, rfl, hc3⟩
  rw [aw3] at hc3
  have b6 := below_to b5 b5.size hc3.below
  have ro5 := ro4.below hc3.below
  have rc : Reads w3 v3 [1] := hc3.reads
  clear hc3 r3 b4 ro3 b5 ro4
  go_wp2_with fail
  have r4 : Reads _ _ (ofNats [1, 3]) := (reads_lit (xs := [1, 3]) (heap_alloc_new w3 (.cells #[.int .i64 1, .int .i64 3] 3)) rfl (by simp)).below ((Below.refl _ _).alloc (Nat.le_refl _) (.cells #[.int .i64 1, .int .i64 3] 3))
  have r5 : Reads _ _ (ofNats [1, 3]) := reads_lit (xs := [1, 3]) (heap_alloc_at (w3.alloc (.cells #[.int .i64 1, .int .i64 3] 3)) (.cells #[.int .i64 1, .int .i64 3] 3) (w3.heap.size + 1) (by simp)) rfl (by simp)
  have b7 := b6.alloc b6.size (.cells #[.int .i64 1, .int .i64 3] 3)
  have b8 := b7.alloc b7.size (.cells #[.int .i64 1, .int .i64 3] 3)
  have ro6 := (ro5.below ((Below.refl _ _).alloc (Nat.le_refl _) (.cells #[.int .i64 1, .int .i64 3] 3))).below ((Below.refl _ _).alloc (Nat.le_refl _) (.cells #[.int .i64 1, .int .i64 3] 3))
  have rc6 := (rc.below ((Below.refl _ _).alloc (Nat.le_refl _) (.cells #[.int .i64 1, .int .i64 3] 3))).below ((Below.refl _ _).alloc (Nat.le_refl _) (.cells #[.int .i64 1, .int .i64 3] 3))
  refine (Smooth_yes _ _ [1, 3] [1, 3] _ r4 r5 cod13 cod13 (by kernel_rfl) (by kernel_rfl) (hT.below b8)).mono ?_
  rintro e w4 ⟨rfl, hb⟩
  rw [aw4]
  have b9 := below_to b8 b8.size hb
  have ro7 := ro6.below hb
  have rc7 := rc6.below hb
  clear hb r4 r5 b6 b7 b8 ro5 ro6 rc rc6
  go_wp2_with fail
  have r6 : Reads _ _ (ofNats [1, 2, 7, 11]) := reads_lit (xs := [1, 2, 7, 11]) (heap_alloc_new w4 (.cells #[.int .i64 1, .int .i64 2, .int .i64 7, .int .i64 11] 3)) rfl (by simp)
  have b10 := b9.alloc b9.size (.cells #[.int .i64 1, .int .i64 2, .int .i64 7, .int .i64 11] 3)
  have ro8 := ro7.below ((Below.refl _ _).alloc (Nat.le_refl _) (.cells #[.int .i64 1, .int .i64 2, .int .i64 7, .int .i64 11] 3))
  have rc8 := rc7.below ((Below.refl _ _).alloc (Nat.le_refl _) (.cells #[.int .i64 1, .int .i64 2, .int .i64 7, .int .i64 11] 3))
  refine (Chains_yes _ [1, 2, 7, 11] _ r6 cod1 (by kernel_rfl) (by kernel_rfl) (hT.below b10)).mono ?_
  rintro e w5 ⟨rfl, hb⟩
  rw [show ([1, 2, 7, 11] : List Nat).length = 4 from rfl, aw5]
  have b11 := below_to b10 b10.size hb
  have ro9 := ro8.below hb
  have rc9 := rc8.below hb
  clear hb r6 b9 b10 ro7 ro8 rc7 rc8
  go_wp2_with fail
  have r7 := reads_lit (xs := [0, 1, 3]) (heap_alloc_new w5 (.cells #[.int .i64 0, .int .i64 1, .int .i64 3] 3)) rfl (by simp)
  have b12 := b11.alloc b11.size (.cells #[.int .i64 0, .int .i64 1, .int .i64 3] 3)
  have ro10 := ro9.below ((Below.refl _ _).alloc (Nat.le_refl _) (.cells #[.int .i64 0, .int .i64 1, .int .i64 3] 3))
  have rc10 := rc9.below ((Below.refl _ _).alloc (Nat.le_refl _) (.cells #[.int .i64 0, .int .i64 1, .int .i64 3] 3))
  refine (ints_same _ _ [0, 1, 3] _ ro10 r7).mono ?_
  rintro e w6 ⟨rfl, m6, rfl⟩
  have b13 := below_to b12 b12.size (below_drewN _ m6)
  have rc11 := rc10.below (below_drewN _ m6)
  clear r7 b11 b12 ro9 ro10 rc9 rc10
  generalize hW6 : World.drewN _ m6 = W6 at *
  clear hW6
  go_wp2_with fail
  have r8 := reads_lit (xs := [1]) (heap_alloc_new W6 (.cells #[.int .i64 1] 3)) rfl (by simp)
  have b14 := b13.alloc b13.size (.cells #[.int .i64 1] 3)
  have rc12 := rc11.below ((Below.refl _ _).alloc (Nat.le_refl _) (.cells #[.int .i64 1] 3))
  refine (ints_same _ _ [1] _ rc12 r8).mono ?_
  rintro e w7 ⟨rfl, m7, rfl⟩
  have b15 := below_to b14 b14.size (below_drewN _ m7)
  clear r8 b13 b14 rc11 rc12
  generalize hW7 : World.drewN _ m7 = W7 at *
  clear hW7
  go_wp2_with fail
  go_ret
  exact ⟨rfl, b15⟩
end Go.Proofs.YtppmgbjdbnedoamDoor

/- PlyJoined. -/
set_option linter.unusedVariables false
set_option linter.unusedSimpArgs false
namespace Go.Proofs.YtppmgbjdbnedoamDoor
open Go.RowKit

set_option maxRecDepth 100000 in
set_option maxHeartbeats 3200000 in
theorem PlyJoined_walk (a0 : Int) (sl : Value) (xs : List Int) (a2 : Int) (w : World) (h0 : -9223372036854775808 ≤ a0 ∧ a0 ≤ 9223372036854775807) (hr : Reads w sl xs) (hx : ∀ x ∈ xs, -9223372036854775808 ≤ x ∧ x ≤ 9223372036854775807) (h2 : -9223372036854775808 ≤ a2 ∧ a2 ≤ 9223372036854775807) (hT : Tab w) :
    Calls Tryd.prog 3 #[.int .i64 a0, sl, .int .i64 a2] w fun e w' => e = .returned (.bool true) ∧ Below w.heap.size w w' := by
  clear hx h0 h2
  obtain ⟨ra, rcap, rfl, _, _, _⟩ := hr.open
  go_enter Tryd.func3, Tryd.ntmps3
  have hb := Below.refl w.heap.size w
  go_wp2_with fail
  refine (tame_any a0 _ xs 6 false _ hr (by omega) (by omega)).mono ?_
  rintro e w1 ⟨l, cs, rfl, hcol, hc, hs, _, _⟩
  replace hb := below_to hb hb.size hcol.below
  have rc := hcol.reads
  clear hcol hr
  obtain ⟨la, lc, rfl, _, _, _⟩ := rc.open
  rw [ofNats_len] at rc ⊢
  have hl1 := hc.1
  have hl6 := hc.2.1
  obtain ⟨N, S, hN, hshN, hN1, hN64, hS2, HMS⟩ := set_mod hl6 a2
  have HSL : Hid (S < 2 ^ cs.length) := Lib.hid (by rw [hN]; exact hS2)
  have hS64 : S < 64 := by omega
  have HC := Lib.hid hc
  have HS := Lib.hid hs
  have HC64 := Lib.hid (cell_64 hc)
  have HJA : Hid (∀ i, i < (piecesOf cs S S).length → JoinI cs S i (cell (piecesOf cs S S) i)) := Lib.hid (fun i hi => join_at hc HSL.out hi)
  have HJE := Lib.hid (join_end hc HSL.out)
  have HTZ := Lib.hid (took_zero cs S)
  have hLn := piecesOf_len hc HSL.out S S LeftI.start (Nat.le_refl _)
  obtain ⟨L, hL⟩ : ∃ L, piecesOf cs S S = L := ⟨_, rfl⟩
  have HLL := Lib.hid hL
  have HLOW : Hid (∀ i, i + 1 < L.length → lowN (cell L i) < lowN (cell L (i + 1))) := Lib.hid (fun i hi => by
    have := (HJA.out i (by rw [hL]; omega)).low
    rw [hL] at this
    exact this hi)
  rw [hL] at HJA HJE hLn
  clear hN hL hc hs
  go_wp2_with fail
  refine (HMS.out _).mono ?_
  rintro e w1 ⟨rfl, rfl⟩
  go_wp2_with fail
  refine (Pieces_yes _ cs S _ rc HC.out HS.out HSL.out (hT.below hb)).mono ?_
  rintro e w2 ⟨vs, rfl, hcol⟩
  rw [HLL.out] at hcol
  replace rc := rc.below hcol.below
  replace hb := below_to hb hb.size hcol.below
  have rs := hcol.reads
  clear hcol
  obtain ⟨vs_a, vs_c, rfl, _, _, _⟩ := rs.open
  rw [ofNats_len] at rs ⊢
  have RS0 := Lib.hid rs
  have RC0 := Lib.hid rc
  have HB0 := Lib.hid hb
  clear rs rc hb
  go_wp2_with fail
  go_loopw [10, 11] (fun s i wr => ∃ k : Nat, k ≤ L.length ∧ i = .int .i64 k ∧ s = .int .i64 (tookTo cs S k : Nat) ∧ Below w2.heap.size w2 wr) (fun _ i _ => L.length - (intOf i).toNat)
  case atStart => exact ⟨0, by omega, rfl, by rw [HTZ.out]; rfl, Below.refl _ _⟩
  case round =>
    obtain ⟨k, hk, rfl, rfl, hbr⟩ := hrel
    have hb := below_to HB0.out HB0.out.size hbr
    by_cases hlt : k < L.length
    · have rs := RS0.out.below hbr
      have rc := RC0.out.below hbr
      obtain ⟨b1, o1, he1, _, hc1⟩ := rs.at.2 k hlt
      cases he1
      have k0 : (0 : Int) ≤ (k : Int) := by omega
      have k1 : (k : Int) < (L.length : Int) := by omega
      have HJ := Lib.hid (HJA.out k hlt)
      obtain ⟨x, hx⟩ : ∃ x, cell L k = x := ⟨_, rfl⟩
      have HX := Lib.hid hx
      rw [hx] at hc1 HJ
      have hx0 := HJ.out.ne
      have hx64 := HJ.out.lt
      have hfew := HJ.out.few
      have HNX := Lib.hid HJ.out.next
      rw [← HNX.out] at hfew
      have e1 : bits .and .i64 (x : Int) (S : Int) = (x : Int) := by rw [i64_and _ _ (by omega) (by omega), sub_and HJ.out.sub]
      have e2 : bits .and .i64 (tookTo cs S k : Int) (x : Int) = 0 := by rw [i64_and _ _ (by omega) (by omega), HJ.out.apart]; rfl
      generalize hT0 : tookTo cs S k = T at *
      have x0 : decide ((x : Int) < 1) = false := decide_eq_false (by omega)
      have x0n : decide (x < 1) = false := decide_eq_false (by omega)
      have x1 : (0 : Int) < (x : Int) := by omega
      have e3 : bits .andNot .i64 (x : Int) ((x : Int) - 1) = ((lowN x : Nat) : Int) := by
        rw [show (x : Int) - 1 = ((x - 1 : Nat) : Int) by omega]; exact i64_andNot _ _ (by omega) (by omega)
      clear hx hT0
      rcases Nat.eq_zero_or_pos k with hk0 | hk0
      · subst hk0
        rw [Nat.add_zero] at hc1
        go_wp2_with fail
        refine wp_region_quiet_lit (by kernel_rfl) (by kernel_rfl) ?_
        repeat (go_big_quiet_step (fail))
        refine wpQuiet_nil ?_
        intro _ hw'
        obtain ⟨nqa, hw''⟩ := hw'
        subst hw''
        go_wp2_with fail
        refine wp_region_quiet_lit (by kernel_rfl) (by kernel_rfl) ?_
        repeat (go_big_quiet_step (fail))
        refine wpQuiet_nil ?_
        intro _ hw'
        obtain ⟨nq, hw''⟩ := hw'
        subst hw''
        go_wp2_with fail
        replace rs := rs.below (below_drewN _ (nqa + nq))
        replace rc := rc.below (below_drewN _ (nqa + nq))
        replace hb := below_to hb hb.size (below_drewN _ (nqa + nq))
        replace hbr := hbr.trans ((below_drewN _ (nqa + nq)).mono hbr.size)
        generalize hWd : World.drewN _ (nqa + nq) = Wd at *
        clear hWd
        refine (Pieces_yes _ cs x _ rc HC.out HS.out HJ.out.own (hT.below hb)).mono ?_
        rintro e w11 ⟨vo, rfl, hco⟩
        rw [HJ.out.alone] at hco
        have ro := hco.reads
        replace rs := rs.below hco.below
        replace rc := rc.below hco.below
        replace hb := below_to hb hb.size hco.below
        replace hbr := hbr.trans (hco.below.mono hbr.size)
        obtain ⟨oa, oc, rfl, _, _, _⟩ := ro.open
        rw [ofNats_len, show [x].length = 1 from rfl] at ro ⊢
        clear hco
        have HRC := Lib.hid rc
        have HRO := Lib.hid ro
        obtain ⟨b5, o5, he5, _, hc5⟩ := rs.at.2 0 hlt
        cases he5
        rw [HX.out, Nat.add_zero] at hc5
        have HRS := Lib.hid rs
        clear rc ro rs
        go_wp2_with fail
        have rl : Reads _ (.slice (some ⟨w11.heap.size, 0, none⟩) 1 1) (ofNats [x]) := reads_lit (xs := [(x : Int)]) (heap_alloc_new w11 (.cells #[.int .i64 x] 3)) rfl (by simp)
        have rc := HRC.out.below ((Below.refl _ _).alloc (Nat.le_refl _) (.cells #[.int .i64 x] 3))
        have ro := HRO.out.below ((Below.refl _ _).alloc (Nat.le_refl _) (.cells #[.int .i64 x] 3))
        have rs := HRS.out.below ((Below.refl _ _).alloc (Nat.le_refl _) (.cells #[.int .i64 x] 3))
        replace hb := hb.alloc hb.size (.cells #[.int .i64 x] 3)
        replace hbr := hbr.alloc hbr.size (.cells #[.int .i64 x] 3)
        refine (ints_same _ _ _ _ ro rl).mono ?_
        rintro e w12 ⟨rfl, m12, rfl⟩
        replace rc := rc.below (below_drewN _ m12)
        replace rs := rs.below (below_drewN _ m12)
        replace hb := below_to hb hb.size (below_drewN _ m12)
        replace hbr := hbr.trans ((below_drewN _ m12).mono hbr.size)
        generalize hWe : World.drewN _ m12 = We at *
        clear hWe ro rl HRC HRO HRS hc5
        have HCC := Lib.hid rc.at.2
        have HSC := Lib.hid rs.at.2
        have HBR := Lib.hid hbr
        clear rc rs hbr
        go_wp2_with fail
        go_loopw [14] (fun i wr => ∃ q d : Nat, q ≤ cs.length ∧ i = .int .i64 q ∧ wr = We.drewN d) (fun i _ => cs.length - (intOf i).toNat)
        case atStart => exact ⟨0, 0, by omega, rfl, rfl⟩
        case round =>
          obtain ⟨q, d, hq, rfl, rfl⟩ := hrel
          by_cases hql : q < cs.length
          · have q0 : (0 : Int) ≤ (q : Int) := by omega
            have q1 : (q : Int) < (cs.length : Int) := by omega
            obtain ⟨b6, o6, he6, _, hc6⟩ := HSC.out 0 hlt
            cases he6
            rw [HX.out, Nat.add_zero] at hc6
            obtain ⟨b7, o7, he7, _, hc7⟩ := HCC.out q hql
            subst he7
            have hbq := refhas_bit x q
            rcases hbit : x.testBit q with _ | _
            · rw [hbit] at hbq
              clear hbit
              go_wp2_with fail
              refine wp_region_quiet_lit (by kernel_rfl) (by kernel_rfl) ?_
              repeat (go_big_quiet_step (fail))
              refine wpQuiet_nil ?_
              intro _ hw'
              obtain ⟨nq, hw''⟩ := hw'
              subst hw''
              go_wp2_with fail
              go_roundw
              case rel => exact ⟨q + 1, _, by omega, by go_num, by first | rfl | exact World.drewN_drewN ..⟩
              case measure => simp [intOf]; omega
            · rw [hbit] at hbq
              have hnr := HJ.out.near q hql hbit
              have e5 : bits .and .i64 (cell cs q : Int) (S : Int) = ((cell cs q &&& S : Nat) : Int) := i64_and _ _ (by have := HC64.out q; omega) (by omega)
              have e6 : bits .andNot .i64 ((cell cs q &&& S : Nat) : Int) (x : Int) = 0 := by
                rw [i64_andNot _ _ (by have := HC64.out q; have := Nat.and_le_left (n := cell cs q) (m := S); omega) (by omega), hnr]; rfl
              have e7 : (cell cs q &&& S) < 64 := by have := HC64.out q; have := Nat.and_le_left (n := cell cs q) (m := S); omega
              generalize cell cs q &&& S = G at *
              clear hbit hnr
              go_wp2_with fail
              refine wp_region_quiet_lit (by kernel_rfl) (by kernel_rfl) ?_
              repeat (go_big_quiet_step (fail))
              refine wpQuiet_nil ?_
              intro _ hw'
              obtain ⟨nq, hw''⟩ := hw'
              subst hw''
              go_wp2_with fail
              go_roundw
              case rel => exact ⟨q + 1, _, by omega, by go_num, by first | rfl | exact World.drewN_drewN ..⟩
              case measure => simp [intOf]; omega
          · obtain ⟨b6, o6, he6, _, hc6⟩ := HSC.out 0 hlt
            cases he6
            rw [HX.out, Nat.add_zero] at hc6
            go_wp2_with fail
            go_roundw
            case rel => exact ⟨0 + 1, by omega, by go_num, by rw [← HNX.out]; go_num, HBR.out.trans ((below_drewN _ _).mono HBR.out.size)⟩
            case measure => simp [intOf]; omega
      · obtain ⟨j, rfl⟩ : ∃ j, k = j + 1 := ⟨k - 1, by omega⟩
        obtain ⟨b2, o2, he2, _, hcj⟩ := rs.at.2 j (by omega)
        cases he2
        have hlow := HLOW.out j hlt
        have hyj := HJA.out j (by omega)
        rw [HX.out] at hlow
        generalize cell L j = y at *
        have hy0 := hyj.ne
        have hy64 := hyj.lt
        have e4 : bits .andNot .i64 (y : Int) ((y : Int) - 1) = ((lowN y : Nat) : Int) := by
          rw [show (y : Int) - 1 = ((y - 1 : Nat) : Int) by omega]; exact i64_andNot _ _ (by omega) (by omega)
        have y1 : (0 : Int) < (y : Int) := by omega
        have x4 : decide ((lowN x : Int) ≤ (lowN y : Int)) = false := decide_eq_false (by omega)
        have x4n : decide (lowN x ≤ lowN y) = false := decide_eq_false (by omega)
        generalize lowN x = lx at *
        generalize lowN y = ly at *
        have x5 : ((j : Int) + 1).toNat = j + 1 := by omega
        have x6 : (0 : Int) < (j : Int) + 1 := by omega
        have x7 : (j : Int) < (L.length : Int) := by omega
        have x8 : (j : Int) + 1 < (L.length : Int) := by omega
        have x9 : (0 : Int) ≤ (j : Int) := by omega
        have x10 : (0 : Int) ≤ (j : Int) + 1 := by omega
        clear hyj hlow
        go_wp2_with fail
        refine wp_region_quiet_lit (by kernel_rfl) (by kernel_rfl) ?_
        repeat (go_big_quiet_step (fail))
        refine wpQuiet_nil ?_
        intro _ hw'
        obtain ⟨nqa, hw''⟩ := hw'
        subst hw''
        go_wp2_with fail
        refine wp_region_quiet_lit (by kernel_rfl) (by kernel_rfl) ?_
        repeat (go_big_quiet_step (fail))
        refine wpQuiet_nil ?_
        intro _ hw'
        obtain ⟨nq, hw''⟩ := hw'
        subst hw''
        go_wp2_with fail
        replace rs := rs.below (below_drewN _ (nqa + nq))
        replace rc := rc.below (below_drewN _ (nqa + nq))
        replace hb := below_to hb hb.size (below_drewN _ (nqa + nq))
        replace hbr := hbr.trans ((below_drewN _ (nqa + nq)).mono hbr.size)
        generalize hWd : World.drewN _ (nqa + nq) = Wd at *
        clear hWd
        refine (Pieces_yes _ cs x _ rc HC.out HS.out HJ.out.own (hT.below hb)).mono ?_
        rintro e w11 ⟨vo, rfl, hco⟩
        rw [HJ.out.alone] at hco
        have ro := hco.reads
        replace rs := rs.below hco.below
        replace rc := rc.below hco.below
        replace hb := below_to hb hb.size hco.below
        replace hbr := hbr.trans (hco.below.mono hbr.size)
        obtain ⟨oa, oc, rfl, _, _, _⟩ := ro.open
        rw [ofNats_len, show [x].length = 1 from rfl] at ro ⊢
        clear hco
        have HRC := Lib.hid rc
        have HRO := Lib.hid ro
        obtain ⟨b5, o5, he5, _, hc5⟩ := rs.at.2 (j + 1) hlt
        cases he5
        rw [HX.out] at hc5
        have HRS := Lib.hid rs
        clear rc ro rs
        go_wp2_with fail
        have rl : Reads _ (.slice (some ⟨w11.heap.size, 0, none⟩) 1 1) (ofNats [x]) := reads_lit (xs := [(x : Int)]) (heap_alloc_new w11 (.cells #[.int .i64 x] 3)) rfl (by simp)
        have rc := HRC.out.below ((Below.refl _ _).alloc (Nat.le_refl _) (.cells #[.int .i64 x] 3))
        have ro := HRO.out.below ((Below.refl _ _).alloc (Nat.le_refl _) (.cells #[.int .i64 x] 3))
        have rs := HRS.out.below ((Below.refl _ _).alloc (Nat.le_refl _) (.cells #[.int .i64 x] 3))
        replace hb := hb.alloc hb.size (.cells #[.int .i64 x] 3)
        replace hbr := hbr.alloc hbr.size (.cells #[.int .i64 x] 3)
        refine (ints_same _ _ _ _ ro rl).mono ?_
        rintro e w12 ⟨rfl, m12, rfl⟩
        replace rc := rc.below (below_drewN _ m12)
        replace rs := rs.below (below_drewN _ m12)
        replace hb := below_to hb hb.size (below_drewN _ m12)
        replace hbr := hbr.trans ((below_drewN _ m12).mono hbr.size)
        generalize hWe : World.drewN _ m12 = We at *
        clear hWe ro rl HRC HRO HRS hc5
        have HCC := Lib.hid rc.at.2
        have HSC := Lib.hid rs.at.2
        have HBR := Lib.hid hbr
        clear rc rs hbr
        go_wp2_with fail
        go_loopw [14] (fun i wr => ∃ q d : Nat, q ≤ cs.length ∧ i = .int .i64 q ∧ wr = We.drewN d) (fun i _ => cs.length - (intOf i).toNat)
        case atStart => exact ⟨0, 0, by omega, rfl, rfl⟩
        case round =>
          obtain ⟨q, d, hq, rfl, rfl⟩ := hrel
          by_cases hql : q < cs.length
          · have q0 : (0 : Int) ≤ (q : Int) := by omega
            have q1 : (q : Int) < (cs.length : Int) := by omega
            obtain ⟨b6, o6, he6, _, hc6⟩ := HSC.out (j + 1) hlt
            cases he6
            rw [HX.out] at hc6
            obtain ⟨b7, o7, he7, _, hc7⟩ := HCC.out q hql
            subst he7
            have hbq := refhas_bit x q
            rcases hbit : x.testBit q with _ | _
            · rw [hbit] at hbq
              clear hbit
              go_wp2_with fail
              refine wp_region_quiet_lit (by kernel_rfl) (by kernel_rfl) ?_
              repeat (go_big_quiet_step (fail))
              refine wpQuiet_nil ?_
              intro _ hw'
              obtain ⟨nq, hw''⟩ := hw'
              subst hw''
              go_wp2_with fail
              go_roundw
              case rel => exact ⟨q + 1, _, by omega, by go_num, by first | rfl | exact World.drewN_drewN ..⟩
              case measure => simp [intOf]; omega
            · rw [hbit] at hbq
              have hnr := HJ.out.near q hql hbit
              have e5 : bits .and .i64 (cell cs q : Int) (S : Int) = ((cell cs q &&& S : Nat) : Int) := i64_and _ _ (by have := HC64.out q; omega) (by omega)
              have e6 : bits .andNot .i64 ((cell cs q &&& S : Nat) : Int) (x : Int) = 0 := by
                rw [i64_andNot _ _ (by have := HC64.out q; have := Nat.and_le_left (n := cell cs q) (m := S); omega) (by omega), hnr]; rfl
              have e7 : (cell cs q &&& S) < 64 := by have := HC64.out q; have := Nat.and_le_left (n := cell cs q) (m := S); omega
              generalize cell cs q &&& S = G at *
              clear hbit hnr
              go_wp2_with fail
              refine wp_region_quiet_lit (by kernel_rfl) (by kernel_rfl) ?_
              repeat (go_big_quiet_step (fail))
              refine wpQuiet_nil ?_
              intro _ hw'
              obtain ⟨nq, hw''⟩ := hw'
              subst hw''
              go_wp2_with fail
              go_roundw
              case rel => exact ⟨q + 1, _, by omega, by go_num, by first | rfl | exact World.drewN_drewN ..⟩
              case measure => simp [intOf]; omega
          · obtain ⟨b6, o6, he6, _, hc6⟩ := HSC.out (j + 1) hlt
            cases he6
            rw [HX.out] at hc6
            go_wp2_with fail
            go_roundw
            case rel => exact ⟨(j + 1) + 1, by omega, by go_num, by rw [← HNX.out]; go_num, HBR.out.trans ((below_drewN _ _).mono HBR.out.size)⟩
            case measure => simp [intOf]; omega
    · have hkn : k = L.length := by omega
      have HTE : Hid (tookTo cs S k = S) := Lib.hid (by rw [hkn]; exact HJE.out)
      rw [HTE.out]
      clear hkn
      go_wp2_with fail
      refine (awake_any _ (hT.below hb)).mono ?_
      rintro e w3 ⟨rfl, hbn⟩
      replace hb := below_to hb hb.size hbn
      clear hbn
      go_wp2_with fail
      go_ret
      exact ⟨rfl, hb⟩
end Go.Proofs.YtppmgbjdbnedoamDoor
