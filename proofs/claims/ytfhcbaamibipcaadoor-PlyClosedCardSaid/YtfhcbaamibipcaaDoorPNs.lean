/- ply: newSpace. -/
import Derived.Test.YtfhcbaamibipcaaDoorPIsS
set_option linter.unusedVariables false
set_option linter.unusedSimpArgs false
namespace Go.Proofs.YtfhcbaamibipcaaDoor
open Go.RowKit

/-- a region walked by hand under a condition S: the count and the list of what is done are written out -/
theorem region_held_lit {P : Program} {ops : List Oper} {Q : Exit → Act → World → Prop} (S : World → Prop) {id : Nat} {a : Act} {w : World} (m : Nat) (L : Array Bool) (hl : ops.length = m) (hL : Array.replicate m false = L) (hm : P.follows .mixedOrders = true) (hS : S w.drew)
    (h : S w.drew → wpAnyH P .any ops.toArray (NoPanic Q) S m L a w.drew) : (Code.region id ops.toArray true).wp P Q a w := by
  subst hl
  subst hL
  exact wp_region_noPanic (wp_region_held_drew hm hS (by simpa using h))
theorem exec_load_sp {ρ : Operand → Value} {o : Oper} {x : Operand} {w : World} {b n : Nat} {c : Nat → Nat} (ho : o.op = .load 35 x) (hx : ρ x = .pointer (some ⟨b, 0, none⟩)) (h : SpF w b n c) : (execOp ρ o).run Tryd.prog w = .ok (.value (spF n c)) w := by
  obtain ⟨c0, c1, c2, c3, c4, c5, c6⟩ := h.cells
  unfold execOp
  simp only [ho, hx]
  go_simp
/-- a space stored over a space -/
def putSp (w : World) (b n : Nat) (c : Nat → Nat) : World := ((((((w.setCell ⟨b, 0, none⟩ (.int .i64 n)).setCell ⟨b, 1, none⟩ (.int .u64 (c 0))).setCell ⟨b, 2, none⟩ (.int .u64 (c 1))).setCell ⟨b, 3, none⟩ (.int .u64 (c 2))).setCell ⟨b, 4, none⟩ (.int .u64 (c 3))).setCell ⟨b, 5, none⟩ (.int .u64 (c 4))).setCell ⟨b, 6, none⟩ (.int .u64 (c 5))
theorem putSp_sp {w : World} {b n n' : Nat} {c c' : Nat → Nat} (h : SpF w b n c) : SpF (putSp w b n' c') b n' c' := SpF.store c' h
theorem putSp_other {w : World} {b n k n' : Nat} {c c' : Nat → Nat} (h : SpF w k n c) (hne : k ≠ b) : SpF (putSp w b n' c') k n c := h.other7 hne _ _ _ _ _ _ _
theorem putSp_below {w0 w : World} {b n' : Nat} {c' : Nat → Nat} (h : Below w0.heap.size w0 w) (hb : w0.heap.size ≤ b) : Below w0.heap.size w0 (putSp w b n' c') := h.set7 hb _ _ _ _ _ _ _
theorem run_store_sp {w : World} {b n n' : Nat} {c : Nat → Nat} (c' : Nat → Nat) (h : SpF w b n c) : (storeVar 35 ⟨b, 0, none⟩ (spF n' c')).run Tryd.prog w = .ok () (putSp w b n' c') := by
  obtain ⟨e0, e1, e2, e3, e4, e5, e6⟩ := h.cells
  have f0 := h.free 0
  have f1 := h.free 1
  have f2 := h.free 2
  have f3 := h.free 3
  have f4 := h.free 4
  have f5 := h.free 5
  have f6 := h.free 6
  unfold storeVar
  go_simp
  rfl
set_option maxRecDepth 100000 in
theorem wp_store_sp {o : Oper} {a : Act} {x y : Operand} {w : World} {K : Act → World → Prop} {Q : Exit → Act → World → Prop} {b n n' : Nat} {c : Nat → Nat} (c' : Nat → Nat) (ho : o.op = .store 35 x y) (hx : a.eval x = .pointer (some ⟨b, 0, none⟩)) (hy : a.eval y = spF n' c') (h : SpF w b n c)
    (hK : K (a.put o.dst undef) (putSp w b n' c')) : Oper.wp Tryd.prog o a w K Q := by
  have hr := run_store_sp (n' := n') c' h
  have hr2 : (Instr.storeAt 35 (.pointer (some ⟨b, 0, none⟩)) (spF n' c')).run Tryd.prog w = .ok () (putSp w b n' c') := by
    have hsa : (Instr.sureAddr (.pointer (some ⟨b, 0, none⟩))).run Tryd.prog w = .ok ⟨b, 0, none⟩ w := by go_simp
    unfold Instr.storeAt
    simp only [asAddr, Sem.run_bind, Sem.run_pure, Result.andThen_ok, hsa, hr]
  unfold Oper.wp execOp
  simp only [ho, hx, hy, Sem.run_bind, Sem.run_pure, Result.andThen_ok, hr2]
  exact hK
set_option maxRecDepth 100000 in
set_option maxHeartbeats 1600000 in
theorem newSpace_ok (v : Value) (cs : List Nat) (w : World) (hr : Reads w v (ofNats cs)) (hc : Codes cs) (hT : Tab w) :
    Calls Tryd.prog 16 #[v] w fun e w' => e = .returned (.tuple #[spV cs, .bool (spaceB cs)]) ∧ Below w.heap.size w w' := by
  have hal : Below w.heap.size w (w.alloc (.cells #[.int .i64 0, .int .u64 0, .int .u64 0, .int .u64 0, .int .u64 0, .int .u64 0, .int .u64 0] 35)) := (Below.refl _ _).alloc (Nat.le_refl _) _
  have hr0 := hr.below hal
  have hb0 := heap_alloc_new w (.cells #[.int .i64 0, .int .u64 0, .int .u64 0, .int .u64 0, .int .u64 0, .int .u64 0, .int .u64 0] 35)
  obtain ⟨a, cap, rfl, _, _, _⟩ := hr.open
  clear hr
  go_enter Tryd.func16, Tryd.ntmps16
  go_wp2_with fail
  refine (newCells_ok _ cs _ hr0 hc).mono ?_
  rintro e w1 ⟨rfl, hb1⟩
  have hb2 : SpF w1 w.heap.size 0 (fun _ => 0) := (hb1.block _ (heap_lt hb0)).trans hb0
  have hbw1 := below_to hal hal.size hb1
  clear hr0 hb0 hb1 hal
  have hal : Below w1.heap.size w1 (w1.alloc (.cells #[.int .i64 cs.length, .int .u64 (cell cs 0), .int .u64 (cell cs 1), .int .u64 (cell cs 2), .int .u64 (cell cs 3), .int .u64 (cell cs 4), .int .u64 (cell cs 5)] 35)) := (Below.refl _ _).alloc (Nat.le_refl _) _
  have hs2 := hb2.below hal
  have hs1 : SpF (w1.alloc (.cells #[.int .i64 cs.length, .int .u64 (cell cs 0), .int .u64 (cell cs 1), .int .u64 (cell cs 2), .int .u64 (cell cs 3), .int .u64 (cell cs 4), .int .u64 (cell cs 5)] 35)) w1.heap.size cs.length (cell cs) := heap_alloc_new _ _
  have hbw := below_to hbw1 hbw1.size hal
  have hlt := hb2.lt
  go_wp2_with fail
  generalize hW : World.alloc w1 _ = W at *
  clear hW hal hbw1 hb2
  generalize hB1 : w1.heap.size = B1 at *
  generalize hB0 : w.heap.size = B0 at *
  clear hB1
  have hd : Below W.heap.size W W.drew := (Below.refl _ _).drew
  have hTd : Tab W.drew := (hT.below (by rw [hB0]; exact hbw)).below hd
  have hs1d := hs1.below hd
  have hs2d := hs2.below hd
  have hbd := below_to hbw (by have := hbw.size; omega) hd
  generalize hWd : W.drew = Wd at *
  clear hs1 hs2 hbw hd
  refine region_held_lit (fun w' => SpF w' B1 cs.length (cell cs)) 8 #[false, false, false, false, false, false, false, false] rfl rfl (by kernel_rfl) (by rw [hWd]; exact hs1d) (fun hHeld => ?_)
  rw [hWd] at hHeld ⊢
  clear hWd
  refine wpAnyH_take (i := 0) (v := spV cs) rfl (by kernel_rfl) (by kernel_rfl) (by kernel_rfl) (fun _ _ _ h => h) (Or.inl ⟨by rfl, fun w' h => exec_load_sp rfl rfl h⟩) hHeld ?_
  try simp only [Act.put, List.getElem_toArray, List.getElem_cons_succ, List.getElem_cons_zero, List.setIfInBounds_toArray, List.set_cons_zero, List.set_cons_succ]
  refine wpAnyH_take (i := 1) (v := _) rfl (by kernel_rfl) (by kernel_rfl) (by kernel_rfl) (fun _ _ _ h => h) (Or.inl ⟨by rfl, fun w' h => by go_simp; rfl⟩) hHeld ?_
  try simp only [Act.put, List.getElem_toArray, List.getElem_cons_succ, List.getElem_cons_zero, List.setIfInBounds_toArray, List.set_cons_zero, List.set_cons_succ]
  refine wpAnyH_take (i := 2) (v := _) rfl (by kernel_rfl) (by kernel_rfl) (by kernel_rfl) (fun _ _ _ h => h) (Or.inl ⟨by rfl, fun w' h => by go_simp; rfl⟩) hHeld ?_
  try simp only [Act.put, List.getElem_toArray, List.getElem_cons_succ, List.getElem_cons_zero, List.setIfInBounds_toArray, List.set_cons_zero, List.set_cons_succ]
  refine wpAnyH_take (i := 3) (v := spV cs) rfl (by kernel_rfl) (by kernel_rfl) (by kernel_rfl) (fun _ _ _ h => h) (Or.inl ⟨by rfl, fun w' h => exec_load_sp rfl rfl h⟩) hHeld ?_
  try simp only [Act.put, List.getElem_toArray, List.getElem_cons_succ, List.getElem_cons_zero, List.setIfInBounds_toArray, List.set_cons_zero, List.set_cons_succ]
  refine wpAnyH_ready (rs := [4]) (by kernel_rfl) (by simp) ?_
  refine AllReadyH.cons rfl (fun K hK => ?_) AllReadyH.nil
  rw [if_pos (by rfl)]
  go_wp2_with fail
  refine (isSpace_any cs _ hc hTd).mono ?_
  rintro e w2 ⟨rfl, hb2⟩
  refine hK.out _ _ (hs1d.below hb2) (fun hHeld => ?_)
  clear hK K
  try simp only [Act.put, List.getElem_toArray, List.getElem_cons_succ, List.getElem_cons_zero, List.setIfInBounds_toArray, List.set_cons_zero, List.set_cons_succ]
  refine wpAnyH_take (i := 5) (v := _) rfl (by kernel_rfl) (by kernel_rfl) (by kernel_rfl) (fun _ _ _ h => h) (Or.inl ⟨by rfl, fun w' h => by go_simp; rfl⟩) hHeld ?_
  try simp only [Act.put, List.getElem_toArray, List.getElem_cons_succ, List.getElem_cons_zero, List.setIfInBounds_toArray, List.set_cons_zero, List.set_cons_succ]
  refine wpAnyH_ready (rs := [6]) (by kernel_rfl) (by simp) ?_
  refine AllReadyH.cons rfl (fun K hK => ?_) AllReadyH.nil
  rw [if_pos (by rfl)]
  refine wp_store_sp (cell cs) rfl rfl rfl (hs2d.below hb2) ?_
  refine hK.out _ _ (putSp_other hHeld (by omega)) (fun hHeld => ?_)
  clear hK K
  try simp only [Act.put, List.getElem_toArray, List.getElem_cons_succ, List.getElem_cons_zero, List.setIfInBounds_toArray, List.set_cons_zero, List.set_cons_succ]
  refine wpAnyH_ready (rs := [7]) (by kernel_rfl) (by simp) ?_
  refine AllReadyH.cons rfl (fun K hK => ?_) AllReadyH.nil
  go_simp
  refine hK.out _ _ hHeld (fun hHeld => ?_)
  clear hK K
  try simp only [Act.put, List.getElem_toArray, List.getElem_cons_succ, List.getElem_cons_zero, List.setIfInBounds_toArray, List.set_cons_zero, List.set_cons_succ]
  refine wpAnyH_done (by kernel_rfl) ?_ _
  refine NoPanic.normal ?_
  go_wp2_with fail
  refine bodyPost_ret (results_sp2 rfl rfl (putSp_sp (hs2d.below hb2)).load) rfl ⟨rfl, ?_⟩
  subst hB0
  exact putSp_below (below_to hbd hbd.size hb2) (Nat.le_refl _)
set_option maxRecDepth 100000 in
set_option maxHeartbeats 1600000 in
theorem newSpace_bad (v : Value) (l : List Int) (w : World) (hr : Reads w v l) (ho : okB l = false) :
    Calls Tryd.prog 16 #[v] w fun e w' => ∃ n c, e = .returned (.tuple #[spF n c, .bool false]) ∧ Below w.heap.size w w' := by
  have hal : Below w.heap.size w (w.alloc (.cells #[.int .i64 0, .int .u64 0, .int .u64 0, .int .u64 0, .int .u64 0, .int .u64 0, .int .u64 0] 35)) := (Below.refl _ _).alloc (Nat.le_refl _) _
  have hr0 := hr.below hal
  have hb0 := heap_alloc_new w (.cells #[.int .i64 0, .int .u64 0, .int .u64 0, .int .u64 0, .int .u64 0, .int .u64 0, .int .u64 0] 35)
  obtain ⟨a, cap, rfl, _, _, _⟩ := hr.open
  clear hr
  go_enter Tryd.func16, Tryd.ntmps16
  go_wp2_with fail
  refine ((newCells_bad _ l _ hr0 ho).mono (R' := fun e w' => ∃ n c, e = .returned (.tuple #[spF n c, .bool false]) ∧ Below (w.alloc (.cells #[.int .i64 0, .int .u64 0, .int .u64 0, .int .u64 0, .int .u64 0, .int .u64 0, .int .u64 0] 35)).heap.size (w.alloc (.cells #[.int .i64 0, .int .u64 0, .int .u64 0, .int .u64 0, .int .u64 0, .int .u64 0, .int .u64 0] 35)) w') (fun e w' h => ⟨_, _, h.1, h.2⟩)).mono ?_
  rintro e w1 ⟨n, c, rfl, hb1⟩
  have hb2 : SpF w1 w.heap.size 0 (fun _ => 0) := (hb1.block _ (heap_lt hb0)).trans hb0
  have hbw1 := below_to hal hal.size hb1
  clear hr0 hb0 hb1 hal
  have hal : Below w1.heap.size w1 (w1.alloc (.cells #[.int .i64 n, .int .u64 (c 0), .int .u64 (c 1), .int .u64 (c 2), .int .u64 (c 3), .int .u64 (c 4), .int .u64 (c 5)] 35)) := (Below.refl _ _).alloc (Nat.le_refl _) _
  have hs2 := hb2.below hal
  have hs1 : SpF (w1.alloc (.cells #[.int .i64 n, .int .u64 (c 0), .int .u64 (c 1), .int .u64 (c 2), .int .u64 (c 3), .int .u64 (c 4), .int .u64 (c 5)] 35)) w1.heap.size n c := heap_alloc_new _ _
  have hbw := below_to hbw1 hbw1.size hal
  have hlt := hb2.lt
  go_wp2_with fail
  generalize hW : World.alloc w1 _ = W at *
  clear hW hal hbw1 hb2
  generalize hB1 : w1.heap.size = B1 at *
  generalize hB0 : w.heap.size = B0 at *
  clear hB1
  have hd : Below W.heap.size W W.drew := (Below.refl _ _).drew
  have hs1d := hs1.below hd
  have hs2d := hs2.below hd
  have hbd := below_to hbw (by have := hbw.size; omega) hd
  generalize hWd : W.drew = Wd at *
  clear hs1 hs2 hbw hd
  refine region_held_lit (fun w' => SpF w' B1 n c) 8 #[false, false, false, false, false, false, false, false] rfl rfl (by kernel_rfl) (by rw [hWd]; exact hs1d) (fun hHeld => ?_)
  rw [hWd] at hHeld ⊢
  clear hWd
  refine wpAnyH_take (i := 0) (v := spF n c) rfl (by kernel_rfl) (by kernel_rfl) (by kernel_rfl) (fun _ _ _ h => h) (Or.inl ⟨by rfl, fun w' h => exec_load_sp rfl rfl h⟩) hHeld ?_
  try simp only [Act.put, List.getElem_toArray, List.getElem_cons_succ, List.getElem_cons_zero, List.setIfInBounds_toArray, List.set_cons_zero, List.set_cons_succ]
  refine wpAnyH_take (i := 1) (v := _) rfl (by kernel_rfl) (by kernel_rfl) (by kernel_rfl) (fun _ _ _ h => h) (Or.inl ⟨by rfl, fun w' h => by go_simp; rfl⟩) hHeld ?_
  try simp only [Act.put, List.getElem_toArray, List.getElem_cons_succ, List.getElem_cons_zero, List.setIfInBounds_toArray, List.set_cons_zero, List.set_cons_succ]
  refine wpAnyH_take (i := 2) (v := _) rfl (by kernel_rfl) (by kernel_rfl) (by kernel_rfl) (fun _ _ _ h => h) (Or.inl ⟨by rfl, fun w' h => by go_simp; rfl⟩) hHeld ?_
  try simp only [Act.put, List.getElem_toArray, List.getElem_cons_succ, List.getElem_cons_zero, List.setIfInBounds_toArray, List.set_cons_zero, List.set_cons_succ]
  refine wpAnyH_take (i := 3) (v := undef) rfl (by kernel_rfl) (by kernel_rfl) (by kernel_rfl) (fun _ _ _ h => h) (Or.inr ⟨by simp [Region.wanted, yielded], rfl⟩) hHeld ?_
  try simp only [Act.put, List.getElem_toArray, List.getElem_cons_succ, List.getElem_cons_zero, List.setIfInBounds_toArray, List.set_cons_zero, List.set_cons_succ]
  refine wpAnyH_take (i := 4) (v := undef) rfl (by kernel_rfl) (by kernel_rfl) (by kernel_rfl) (fun _ _ _ h => h) (Or.inr ⟨by simp [Region.wanted, yielded], rfl⟩) hHeld ?_
  try simp only [Act.put, List.getElem_toArray, List.getElem_cons_succ, List.getElem_cons_zero, List.setIfInBounds_toArray, List.set_cons_zero, List.set_cons_succ]
  refine wpAnyH_take (i := 5) (v := _) rfl (by kernel_rfl) (by kernel_rfl) (by kernel_rfl) (fun _ _ _ h => h) (Or.inl ⟨by rfl, fun w' h => by go_simp; rfl⟩) hHeld ?_
  try simp only [Act.put, List.getElem_toArray, List.getElem_cons_succ, List.getElem_cons_zero, List.setIfInBounds_toArray, List.set_cons_zero, List.set_cons_succ]
  refine wpAnyH_ready (rs := [6]) (by kernel_rfl) (by simp) ?_
  refine AllReadyH.cons rfl (fun K hK => ?_) AllReadyH.nil
  rw [if_pos (by rfl)]
  refine wp_store_sp (x := .tmp 2) (y := .tmp 11) (b := B0) (n' := n) (n := 0) (c := fun _ => 0) c rfl rfl rfl hs2d ?_
  refine hK.out _ _ (putSp_other hHeld (by omega)) (fun hHeld => ?_)
  clear hK K
  try simp only [Act.put, List.getElem_toArray, List.getElem_cons_succ, List.getElem_cons_zero, List.setIfInBounds_toArray, List.set_cons_zero, List.set_cons_succ]
  refine wpAnyH_ready (rs := [7]) (by kernel_rfl) (by simp) ?_
  refine AllReadyH.cons rfl (fun K hK => ?_) AllReadyH.nil
  go_simp
  refine hK.out _ _ hHeld (fun hHeld => ?_)
  clear hK K
  try simp only [Act.put, List.getElem_toArray, List.getElem_cons_succ, List.getElem_cons_zero, List.setIfInBounds_toArray, List.set_cons_zero, List.set_cons_succ]
  refine wpAnyH_done (by kernel_rfl) ?_ _
  refine NoPanic.normal ?_
  go_wp2_with fail
  refine bodyPost_ret (results_sp2 rfl rfl (putSp_sp hs2d).load) rfl ⟨_, _, rfl, ?_⟩
  subst hB0
  exact putSp_below hbd (Nat.le_refl _)

/-- the numbers are the cells of a space -/
def spL (l : List Int) : Bool := okB l && spaceB (natsOf l)
theorem spL_nats {cs : List Nat} (hc : Codes cs) (hs : spaceB cs = true) : spL (ofNats cs) = true := by
  have h1 : natsOf (ofNats cs) = cs := by
    unfold natsOf ofNats
    rw [List.map_map]
    conv => rhs; rw [← List.map_id cs]
    refine List.map_congr_left fun x _ => ?_
    simp
  have h2 : okB (ofNats cs) = true := by
    unfold okB
    rw [ofNats_len, decide_eq_true hc.1, decide_eq_true hc.2.1, Bool.true_and, Bool.true_and, codesB_iff]
    intro k _
    rw [gi_nats, setB_iff]
    have := hc.2.2 k
    have e : ((2 : Int) ^ cs.length) = ((2 ^ cs.length : Nat) : Int) := by push_cast; rfl
    omega
  unfold spL
  rw [h1, h2, hs]; rfl
theorem spL_get {l : List Int} (h : spL l = true) : Codes (natsOf l) ∧ spaceB (natsOf l) = true ∧ l = ofNats (natsOf l) := by
  unfold spL at h
  rw [Bool.and_eq_true] at h
  exact ⟨(ok_codes h.1).1, h.2, (ok_codes h.1).2⟩
theorem newSpace_yes (v : Value) (cs : List Nat) (w : World) (hr : Reads w v (ofNats cs)) (hc : Codes cs) (hs : spaceB cs = true) (hT : Tab w) :
    Calls Tryd.prog 16 #[v] w fun e w' => e = .returned (.tuple #[spV cs, .bool true]) ∧ Below w.heap.size w w' := by
  have := newSpace_ok v cs w hr hc hT
  rwa [hs] at this
theorem newSpace_no (v : Value) (l : List Int) (w : World) (hr : Reads w v l) (h : spL l = false) (hT : Tab w) :
    Calls Tryd.prog 16 #[v] w fun e w' => ∃ n c, e = .returned (.tuple #[spF n c, .bool false]) ∧ Below w.heap.size w w' := by
  rcases ho : okB l with _ | _
  · exact newSpace_bad v l w hr ho
  · obtain ⟨hc, hl⟩ := ok_codes ho
    have hs : spaceB (natsOf l) = false := by
      unfold spL at h
      rw [ho, Bool.true_and] at h; exact h
    rw [hl] at hr
    have := newSpace_ok v (natsOf l) w hr hc hT
    rw [hs] at this
    exact this.mono fun e w' h => ⟨_, _, h.1, h.2⟩
end Go.Proofs.YtfhcbaamibipcaaDoor
