/- clear, and what ranges over it: Count, Item, Complete, Next. -/
import Derived.Test.YtlgonmnbedddaaaEnum
import Derived.Test.YtlgonmnbedddaaaClone
import Derived.Laws.EntriesVeiled
set_option linter.unusedVariables false
set_option linter.unusedSimpArgs false
namespace Go.Proofs.Ytlgonmnbedddaaa
open Go.RowKit Go.Shelf
attribute [local go_sem] Oper.semAt_some

theorem clear_any (a : Option Addr) (len cap : Nat) (n : Int) (w : World) :
    Calls Try.prog 46 #[.slice a len cap, .int .i64 n] w fun e w' => e = .returned (.func (.func 51) #[] #[.pointer (some ⟨w.heap.size + 1, 0, none⟩), .pointer (some ⟨w.heap.size, 0, none⟩)]) ∧
      (w.alloc (.cells #[.slice a len cap] 22)).alloc (.cells #[.int .i64 n] 3) = w' := by
  go_enter Try.func46, Try.ntmps46
  go_wp2
  go_ret
  exact ⟨rfl, rfl⟩

def ordEnc (x : Value × List Int) : Array Value := #[x.1]
/-- the clear orders with a beginning -/
def clearsL (n : Nat) (start : List Int) : List (List Int) := enumL n (n - start.length) start

set_option maxRecDepth 100000 in
set_option maxHeartbeats 1600000 in
theorem clear1_given (X : Nat → Prop) (n : Nat) (hn : n ≤ 1000) (start : List Int) (hst : start.length ≤ n) (hsm : ∀ j, 0 ≤ gi start j ∧ gi start j ≤ 1000) (v : Value) (Bn Bs m : Nat) (w : World)
    (hX : ∀ b, X b → b < w.heap.size + 2) (hXn : ¬ X Bn) (hXs : ¬ X Bs) (hBn : w.heap[Bn]? = some (.cells #[.int .i64 n] 3)) (hBs : w.heap[Bs]? = some (.cells #[v] 22)) (hv : Reads w v start) :
    Given m Try.prog 51 #[.pointer (some ⟨Bn, 0, none⟩), .pointer (some ⟨Bs, 0, none⟩)] ordEnc (KeepX X) (fun zs => zs.map (·.2) = clearsL n start) (fun zs => zs.map (·.2) <+: clearsL n start) (fun pre x W => Given2 X W x.1 x.2 ∧ x.2.length = n) w := by
  intro l J Jx W hW hWs hJ hJx hY h0
  refine CallsIn.any (m := 9) _ ?_
  have hBn1 := (hW.block Bn (heap_lt hBn)).trans hBn
  have hBs1 := (hW.block Bs (heap_lt hBs)).trans hBs
  have hv1 : Reads W v start := hv.below hW
  obtain ⟨a, cap, rfl, _, _, hcell⟩ := hv1.open
  have cs := cell_of hBs1 (j := 0) rfl
  refine (callsIn_of_wp Try.func51 rfl trivial ?_ rfl)
  simp only [Try.ntmps51, List.size_toArray, List.length_cons, List.length_nil, Nat.reduceAdd, Nat.reduceSub, Array.replicate_succ, Array.replicate_zero, List.push_toArray, List.append_toArray, List.nil_append, List.cons_append]
  gi_wp2_with fail
  refine wpIn_wide.2 ?_
  have hXW : ∀ b, X b → b < W.heap.size := fun b hb => Nat.lt_of_lt_of_le (hX b hb) hWs
  have hYok : YieldOk X n l J Jx := fun pre x W1 h1 h2 h2' => by
    obtain ⟨fn, tmps, ca, bd, h3, h4⟩ := hY pre x W1 h1 ⟨h2, h2'⟩
    exact ⟨fn, tmps, ca, bd, h3, RoundIn.any 0 h4⟩
  clear hY
  generalize hW2 : World.alloc (World.alloc W _) _ = W2
  have hbW : Below W.heap.size W W2 := by rw [← hW2]; exact ((Below.refl _ _).alloc (Nat.le_refl _) _).alloc (by simp) _
  have hcap : Caps X n l Bn W.heap.size (W.heap.size + 1) W2 := by
    refine ⟨(hbW.block Bn (heap_lt hBn1)).trans hBn1, ?_, ?_, hXn, fun h => by have := hXW _ h; omega, fun h => by have := hXW _ h; omega⟩
    · rw [← hW2]; exact alloc_old (heap_alloc_new _ _)
    · rw [← hW2]; exact heap_alloc_at _ _ _ (by simp)
  clear hW2
  have hj2 : J [] W2 := hJ _ _ _ none h0 (below_grown0 hbW) (fun _ e => by cases e)
  have hv2 : Reads W2 (.slice a start.length cap) start := hv1.below hbW
  have c1 := cell_of hcap.e0 (j := 0) rfl
  have c2 := cell_of ((hbW.block Bs (heap_lt hBs1)).trans hBs1) (j := 0) rfl
  have l1 := heap_lt hcap.e0
  have l2 : Bs < W2.heap.size := Nat.lt_of_lt_of_le (heap_lt hBs1) hbW.size
  clear cs hcell
  go_region_held3 (fun w' => w'.cell? ⟨W.heap.size + 1, 0, none⟩ = some (.func (.func 52) #[] #[.pointer (some ⟨Bn, 0, none⟩), .pointer (some ⟨W.heap.size, 0, none⟩), .pointer (some ⟨W.heap.size + 1, 0, none⟩)]) ∧ w'.cell? ⟨Bs, 0, none⟩ = some (.slice a start.length cap))
    (first | go_keep | exact ⟨(hcol.below.cell (p := ⟨W.heap.size + 1, 0, none⟩) l1).trans c1, (hcol.below.cell (p := ⟨Bs, 0, none⟩) l2).trans c2⟩ | exact ⟨(hext.1.cell (p := ⟨W.heap.size + 1, 0, none⟩) (Nat.lt_of_lt_of_le l1 hcol.below.size) hcap.nx.2.2).trans ((hcol.below.cell (p := ⟨W.heap.size + 1, 0, none⟩) l1).trans c1), (hext.1.cell (p := ⟨Bs, 0, none⟩) (Nat.lt_of_lt_of_le l2 hcol.below.size) hXs).trans ((hcol.below.cell (p := ⟨Bs, 0, none⟩) l2).trans c2)⟩)
    (first
      | (go_at_call 53; refine (clone_any _ start _ (hv2.below (Below.refl _ _).drew) (by omega)).mono ?_; rintro e w3 ⟨v3, rfl, hcol⟩)
      | (go_at_call 52; refine (callsIn_wide.1 (extend_in X n hn l Bn W.heap.size (W.heap.size + 1) W.heap.size hXW J Jx hJ hYok (n - start.length) start v3 w3 [] (by omega) hsm (own_given hcol.own (fun b hb => by have := hXW b hb; have := hbW.size; simp; omega)) (Nat.le_trans hbW.size hcol.below.size) (hcap.keep (KeepX.of_below (by exact (Below.refl _ _).drew.trans hcol.below))) (hJ _ _ _ none hj2 (below_grown0 ((Below.refl _ _).drew.trans hcol.below)) (fun _ e => by cases e)))).mono ?_; rintro e W' ⟨c, rfl, hext⟩))
  go_end0
  refine ⟨⟨_, rfl⟩, ?_⟩
  cases c
  · obtain ⟨ys, g1, g2⟩ := hext.2.2 rfl
    exact .inr ⟨ys, g1, by simpa using g2⟩
  · obtain ⟨ys, g1, g2⟩ := hext.2.1 rfl
    exact .inl ⟨ys, g1, by simpa using g2⟩

theorem wrap64_small {k : Int} (h1 : -9223372036854775808 ≤ k) (h2 : k ≤ 9223372036854775807) : wrap64 k = k := by unfold wrap64; omega
theorem enumL_len (n : Nat) : ∀ d l, (enumL n d l).length ≤ n ^ d
  | 0, l => by simp only [enumL]; split <;> simp
  | d + 1, l => by
    simp only [enumL]
    split
    · rw [List.length_flatMap]
      have : ∀ (f : Nat → Nat) (m : Nat), (∀ r, f r ≤ n ^ d) → ((List.range m).map f).sum ≤ m * n ^ d := by
        intro f m hf
        induction m with
        | zero => simp
        | succ m ih => rw [List.range_succ, List.map_append, List.sum_append]; simp only [List.map_cons, List.map_nil, List.sum_cons, List.sum_nil]; have := hf m; rw [Nat.succ_mul]; omega
      refine Nat.le_trans (this _ n (fun r => ?_)) (by rw [Nat.pow_succ, Nat.mul_comm]; exact Nat.le_refl _)
      split
      · simp
      · exact enumL_len n d _
    · simp
theorem clears_small (n : Nat) (hn : n ≤ 7) : (clearsL n []).length ≤ 1000000 := by
  refine Nat.le_trans (enumL_len n _ _) ?_
  simp only [List.length_nil, Nat.sub_zero]
  have h : n = 0 ∨ n = 1 ∨ n = 2 ∨ n = 3 ∨ n = 4 ∨ n = 5 ∨ n = 6 ∨ n = 7 := by omega
  rcases h with rfl | rfl | rfl | rfl | rfl | rfl | rfl | rfl <;> decide

/-! ### Count -/
def countS (n : Int) : Int × Int := if withinB n 1 7 then ((clearsL n.toNat []).length, 0) else (0, 2)

set_option maxRecDepth 100000 in
set_option maxHeartbeats 1600000 in
theorem Count_ok (n : Nat) (w : World) (h1 : 1 ≤ n) (h7 : n ≤ 7) :
    Calls Try.prog 33 #[.int .i64 n] w fun e w' => e = .returned (.tuple #[.int .i64 (clearsL n []).length, .int .i64 0]) ∧ Below w.heap.size w w' := by
  have hw : withinB n 1 7 = true := withinB_iff.2 ⟨by omega, by omega⟩
  have HW := Lib.hid hw
  clear hw
  refine (callsIn_wide (n := 20)).1 ?_
  refine callsIn_of_wp_marks Try.func33 rfl trivial ?_ rfl
  simp only [Try.ntmps33, List.size_toArray, List.length_cons, List.length_nil, Nat.reduceAdd, Nat.reduceSub, Array.replicate_succ, Array.replicate_zero, List.push_toArray, List.append_toArray, List.nil_append, List.cons_append]
  gi_wp2_with fail
  refine ⟨trivial, (callsIn_wide.2 (within_any _ _ _ _)).mono ?_⟩
  rintro e w' ⟨rfl, rfl⟩
  rw [HW.out]
  gi_wp2_with fail
  refine ⟨trivial, (callsIn_wide.2 (clear_any _ _ _ _ _)).mono ?_⟩
  rintro e w' ⟨rfl, rfl⟩
  gi_wp2_with fail
  generalize hW0 : World.alloc (World.alloc (World.alloc w _) _) _ = W0
  have hsz : W0.heap.size = w.heap.size + 3 := by rw [← hW0]; simp
  have hbW : Below w.heap.size w W0 := by rw [← hW0]; exact (((Below.refl _ _).alloc (Nat.le_refl _) _).alloc (by simp) _).alloc (by simp <;> omega) _
  have hb0 : W0.heap[w.heap.size]? = some (.cells #[.int .i64 0] 3) := by rw [← hW0]; exact alloc_old (alloc_old (heap_alloc_new _ _))
  have hb1 : W0.heap[w.heap.size + 1]? = some (.cells #[.slice none 0 0] 22) := by rw [← hW0]; exact alloc_old (heap_alloc_at _ _ _ (by simp))
  have hb2 : W0.heap[w.heap.size + 2]? = some (.cells #[.int .i64 n] 3) := by rw [← hW0]; exact heap_alloc_at _ _ _ (by simp)
  clear hW0
  refine range_given (gf := 51) (lb := #[.pointer (some ⟨w.heap.size + 2, 0, none⟩), .pointer (some ⟨w.heap.size + 1, 0, none⟩)]) rfl (enters_of Try.func51 (by kernel_rfl) rfl)
    (clear1_given (fun b => b = w.heap.size ∨ b = W0.heap.size ∨ b = W0.heap.size + 1) n (by omega) [] (by simp) (by intro j; simp [gi]) (.slice none 0 0) (w.heap.size + 2) (w.heap.size + 1) _ W0 (by omega) (by omega) (by omega) hb2 hb1 (Reads.nil _))
    (fun h k => KeepX.trans h k) (fun W o' => KeepX.putObj (.inr (.inr rfl))) (fun _ => rfl)
    (fun pre W => W.heap[w.heap.size]? = some (.cells #[.int .i64 (wrap64 pre.length)] 3) ∧ Below w.heap.size w W)
    (fun c pre W => False) ?hI (fun c s W W' row h _ _ => h) ⟨by rw [show wrap64 ((([] : List (Value × List Int)).length : Nat) : Int) = 0 from wrap64_small (by simp) (by simp)]; exact hb0, hbW⟩
    (fun pre x a' W => a' = { tmps := #[.int .i64 n, undef, .int .i64 0, .int .i64 0, .pointer (some ⟨w.heap.size, 0, none⟩), .int .i64 n, .bool true, .bool false, .int .i64 n, .func (.func 51) #[] #[.pointer (some ⟨w.heap.size + 1 + 1, 0, none⟩), .pointer (some ⟨w.heap.size + 1, 0, none⟩)], x.1, undef, undef, undef], defers := [] })
    (fun pre x a' s W W' row h _ _ => h) ?assign ?body ?done ?stop
  case hI =>
    rintro s W W' row ⟨h1, h2⟩ hg hr
    exact ⟨own_block hg hr (by omega) h1, h2.grown hg h2.size (fun k e => by have := (hr k e).1; omega)⟩
  case assign =>
    rintro l pre x W K hI hx hK
    simp only [ordEnc] at hK ⊢
    gi_wp2
    exact hK _ _ (KeepsFrom.refl _ _) (KeepX.refl _ _) hI (by kernel_rfl)
  case body =>
    rintro l pre x a' W hl hr ⟨h1, h2⟩ rfl
    have c1 := cell_of h1 (j := 0) rfl
    have f1 := free_of h1 0
    gi_wp2
    have hk : KeepsFrom W0.heap.size W (W.setCell ⟨w.heap.size, 0, none⟩ (.int .i64 (wrap64 (wrap64 pre.length + 1)))) := (KeepsOthers.setCell _ _ _).from _
    refine ⟨hk, ⟨by simp, fun b hb hx => ?_⟩, ?_, h2.setCell (p := ⟨w.heap.size, 0, none⟩) (Nat.le_refl _) _⟩
    · exact heap_setCell_other _ _ _ _ (fun e => hx (.inl e))
    · rw [show wrap64 (((pre ++ [x]).length : Nat) : Int) = wrap64 (wrap64 pre.length + 1) by simp only [List.length_append, List.length_singleton]; push_cast; unfold wrap64; omega]
      exact set_same h1
  case done =>
    rintro D zs W hD hzs ⟨h1, h2⟩ hK
    have hlen : wrap64 zs.length = (clearsL n []).length := by
      have e : zs.length = (clearsL n []).length := by rw [← hzs, List.length_map]
      rw [e]
      exact wrap64_small (by omega) (by have := clears_small n h7; omega)
    have c1 := cell_of h1 (j := 0) rfl
    have HL := Lib.hid hlen
    clear hlen
    gi_wp2
    refine ⟨by simp, .inl ⟨_, _, rfl, run_takeDeferred hK, ?_⟩⟩
    refine ⟨_, results_tmp2 rfl _ _ _, ?_, ?_⟩
    · rw [← HL.out]; rfl
    · exact h2.trans (belowK_b (w := w) (Nat.le_refl _) _ D _ _ (by omega) hK rfl rfl)
  case stop =>
    rintro D c pre W hD hpre h
    exact h.elim

theorem Count_err (n : Int) (w : World) (h : withinB n 1 7 = false) :
    Calls Try.prog 33 #[.int .i64 n] w fun e w' => e = .returned (.tuple #[.int .i64 0, .int .i64 2]) ∧ Below w.heap.size w w' := by
  have HW := Lib.hid h
  clear h
  go_enter Try.func33, Try.ntmps33
  go_wp2_with (go_at_call 17; refine (within_any _ _ _ _).mono ?_; rintro e w' ⟨rfl, rfl⟩; rw [HW.out])
  go_ret2
  exact ⟨rfl, Below.refl _ _⟩
theorem Count_any (n : Int) (w : World) :
    Calls Try.prog 33 #[.int .i64 n] w fun e w' => e = .returned (.tuple #[.int .i64 (countS n).1, .int .i64 (countS n).2]) ∧ Below w.heap.size w w' := by
  unfold countS
  rcases h : withinB n 1 7 with _ | _
  · exact Count_err n w h
  · obtain ⟨h1, h2⟩ := withinB_iff.1 h
    obtain ⟨k, rfl⟩ : ∃ k : Nat, n = k := ⟨n.toNat, by omega⟩
    exact Count_ok k w (by omega) (by omega)
end Go.Proofs.Ytlgonmnbedddaaa
