/- ply: both. -/
import Derived.Test.YtfhcbaamibipcaaDoorPClos
set_option linter.unusedVariables false
set_option linter.unusedSimpArgs false
namespace Go.Proofs.YtfhcbaamibipcaaDoor
open Go.RowKit

theorem reads_one (w : World) (x : Int) : Reads (w.alloc (.cells #[.int .i64 x] 3)) (.slice (some ⟨w.heap.size, 0, none⟩) 1 1) [x] :=
  ⟨_, 1, rfl, Nat.le_refl _, by simp [maxLen], .inr ⟨w.heap.size, 0, rfl, by simp, fun j hj => by
    have : j = 0 := by simpa using hj
    subst this
    exact cell_of (heap_alloc_new _ _) rfl⟩⟩
set_option maxRecDepth 100000 in
set_option maxHeartbeats 1600000 in
theorem both_ok (v : Value) (cs : List Nat) (code : Int) (w : World) (hr : Reads w v (ofNats cs)) (hc : Codes cs) (hs : spaceB cs = true) (hT : Tab w) :
    Calls Tryd.prog 9 #[v, .int .i64 code] w fun e w' => e = .returned (.tuple #[spV cs, .int .u64 (IntKind.u64.wrap code), .bool (setB cs.length code)]) ∧ Below w.heap.size w w' := by
  have hal : Below w.heap.size w (w.alloc (.cells #[.int .i64 0, .int .u64 0, .int .u64 0, .int .u64 0, .int .u64 0, .int .u64 0, .int .u64 0] 35)) := (Below.refl _ _).alloc (Nat.le_refl _) _
  have hr0 := hr.below hal
  have hb0 := heap_alloc_new w (.cells #[.int .i64 0, .int .u64 0, .int .u64 0, .int .u64 0, .int .u64 0, .int .u64 0, .int .u64 0] 35)
  obtain ⟨a, cap, rfl, _, _, _⟩ := hr.open
  clear hr
  go_enter Tryd.func9, Tryd.ntmps9
  go_wp2_with fail
  refine (newSpace_yes _ cs _ hr0 hc hs (hT.below hal)).mono ?_
  rintro e w1 ⟨rfl, hb1⟩
  have hb2 : SpF w1 w.heap.size 0 (fun _ => 0) := (hb1.block _ (heap_lt hb0)).trans hb0
  have hbw1 := below_to hal hal.size hb1
  clear hr0 hb0 hb1 hal
  have hal : Below w1.heap.size w1 (w1.alloc (.cells #[.int .i64 cs.length, .int .u64 (cell cs 0), .int .u64 (cell cs 1), .int .u64 (cell cs 2), .int .u64 (cell cs 3), .int .u64 (cell cs 4), .int .u64 (cell cs 5)] 35)) := (Below.refl _ _).alloc (Nat.le_refl _) _
  have hs2 := hb2.below hal
  have hs1 : SpF (w1.alloc (.cells #[.int .i64 cs.length, .int .u64 (cell cs 0), .int .u64 (cell cs 1), .int .u64 (cell cs 2), .int .u64 (cell cs 3), .int .u64 (cell cs 4), .int .u64 (cell cs 5)] 35)) w1.heap.size cs.length (cell cs) := heap_alloc_new _ _
  have hbw := below_to hbw1 hbw1.size hal
  have hlt := hb2.lt
  go_wp2_with fail
  generalize hW : World.alloc w1 _ = W at *
  clear hW hal hbw1 hb2
  generalize hB1 : w1.heap.size = B1 at *
  generalize hB0 : w.heap.size = B0 at *
  clear hB1
  have hd : Below W.heap.size W W.drew := (Below.refl _ _).drew
  have hs1d := hs1.below hd
  have hs2d := hs2.below hd
  have hbd := below_to hbw (by have := hbw.size; omega) hd
  generalize hWd : W.drew = Wd at *
  clear hs1 hs2 hbw hd
  refine region_held_lit (fun w' => SpF w' B1 cs.length (cell cs)) 14 #[false, false, false, false, false, false, false, false, false, false, false, false, false, false] rfl rfl (by kernel_rfl) (by rw [hWd]; exact hs1d) (fun hHeld => ?_)
  rw [hWd] at hHeld ⊢
  clear hWd
  refine wpAnyH_take (i := 0) (v := spF cs.length (cell cs)) rfl (by kernel_rfl) (by kernel_rfl) (by kernel_rfl) (fun _ _ _ h => h) (Or.inl ⟨by rfl, fun w' h => exec_load_sp rfl rfl h⟩) hHeld ?_
  try simp only [Act.put, List.getElem_toArray, List.getElem_cons_succ, List.getElem_cons_zero, List.setIfInBounds_toArray, List.set_cons_zero, List.set_cons_succ]
  refine wpAnyH_take (i := 1) (v := _) rfl (by kernel_rfl) (by kernel_rfl) (by kernel_rfl) (fun _ _ _ h => h) (Or.inl ⟨by rfl, fun w' h => by go_simp; rfl⟩) hHeld ?_
  try simp only [Act.put, List.getElem_toArray, List.getElem_cons_succ, List.getElem_cons_zero, List.setIfInBounds_toArray, List.set_cons_zero, List.set_cons_succ]
  refine wpAnyH_take (i := 2) (v := _) rfl (by kernel_rfl) (by kernel_rfl) (by kernel_rfl) (fun _ _ _ h => h) (Or.inl ⟨by rfl, fun w' h => by go_simp; rfl⟩) hHeld ?_
  try simp only [Act.put, List.getElem_toArray, List.getElem_cons_succ, List.getElem_cons_zero, List.setIfInBounds_toArray, List.set_cons_zero, List.set_cons_succ]
  refine wpAnyH_take (i := 3) (v := _) rfl (by kernel_rfl) (by kernel_rfl) (by kernel_rfl) (fun _ _ _ h => h) (Or.inl ⟨by rfl, fun w' h => by go_simp; rfl⟩) hHeld ?_
  try simp only [Act.put, List.getElem_toArray, List.getElem_cons_succ, List.getElem_cons_zero, List.setIfInBounds_toArray, List.set_cons_zero, List.set_cons_succ]
  refine wpAnyH_take (i := 4) (v := _) rfl (by kernel_rfl) (by kernel_rfl) (by kernel_rfl) (fun _ _ _ h => h) (Or.inl ⟨by rfl, fun w' h => by go_simp; rfl⟩) hHeld ?_
  try simp only [Act.put, List.getElem_toArray, List.getElem_cons_succ, List.getElem_cons_zero, List.setIfInBounds_toArray, List.set_cons_zero, List.set_cons_succ]
  refine wpAnyH_take (i := 5) (v := _) rfl (by kernel_rfl) (by kernel_rfl) (by kernel_rfl) (fun _ _ _ h => h) (Or.inl ⟨by rfl, fun w' h => by go_simp; rfl⟩) hHeld ?_
  try simp only [Act.put, List.getElem_toArray, List.getElem_cons_succ, List.getElem_cons_zero, List.setIfInBounds_toArray, List.set_cons_zero, List.set_cons_succ]
  refine wpAnyH_take (i := 6) (v := _) rfl (by kernel_rfl) (by kernel_rfl) (by kernel_rfl) (fun _ _ _ h => h) (Or.inl ⟨by rfl, fun w' h => by have h0 := h.n; go_simp; rfl⟩) hHeld ?_
  try simp only [Act.put, List.getElem_toArray, List.getElem_cons_succ, List.getElem_cons_zero, List.setIfInBounds_toArray, List.set_cons_zero, List.set_cons_succ]
  refine wpAnyH_take (i := 7) (v := _) rfl (by kernel_rfl) (by kernel_rfl) (by kernel_rfl) (fun _ _ _ h => h) (Or.inl ⟨by rfl, fun w' h => by go_simp; rfl⟩) hHeld ?_
  try simp only [Act.put, List.getElem_toArray, List.getElem_cons_succ, List.getElem_cons_zero, List.setIfInBounds_toArray, List.set_cons_zero, List.set_cons_succ]
  refine wpAnyH_ready (rs := [8]) (by kernel_rfl) (by simp) ?_
  refine AllReadyH.cons rfl (fun K hK => ?_) AllReadyH.nil
  go_wp2_with fail
  have hal8 : Below Wd.heap.size Wd (Wd.alloc (.cells #[.int .i64 code] 3)) := (Below.refl _ _).alloc (Nat.le_refl _) _
  have h8 := reads_one Wd code
  refine hK.out _ _ (hs1d.below hal8) (fun hHeld => ?_)
  clear hK K
  have hs2e := hs2d.below hal8
  have hbe := below_to hbd (by have := hbd.size; omega) hal8
  generalize hB8 : Wd.heap.size = B8 at *
  generalize hW8 : World.alloc Wd _ = W8 at *
  clear hW8 hB8 hal8 hs2d hs1d
  try simp only [Act.put, List.getElem_toArray, List.getElem_cons_succ, List.getElem_cons_zero, List.setIfInBounds_toArray, List.set_cons_zero, List.set_cons_succ]
  refine wpAnyH_ready (rs := [9]) (by kernel_rfl) (by simp) ?_
  refine AllReadyH.cons rfl (fun K hK => ?_) AllReadyH.nil
  rw [if_pos (by rfl)]
  go_wp2_with fail
  refine (areCodes_any cs.length _ [code] _ hc.2.1 h8).mono ?_
  rintro e w2 ⟨rfl, hb2⟩
  have hs2d := hs2e.below hb2
  refine hK.out _ _ (hHeld.below hb2) (fun hHeld => ?_)
  have hbd := below_to hbe (by have := hbe.size; omega) hb2
  clear hK K
  try simp only [Act.put, List.getElem_toArray, List.getElem_cons_succ, List.getElem_cons_zero, List.setIfInBounds_toArray, List.set_cons_zero, List.set_cons_succ]
  refine wpAnyH_take (i := 10) (v := _) rfl (by kernel_rfl) (by kernel_rfl) (by kernel_rfl) (fun _ _ _ h => h) (Or.inl ⟨by rfl, fun w' h => by go_simp; rfl⟩) hHeld ?_
  try simp only [Act.put, List.getElem_toArray, List.getElem_cons_succ, List.getElem_cons_zero, List.setIfInBounds_toArray, List.set_cons_zero, List.set_cons_succ]
  refine wpAnyH_ready (rs := [11]) (by kernel_rfl) (by simp) ?_
  refine AllReadyH.cons rfl (fun K hK => ?_) AllReadyH.nil
  rw [if_pos (by rfl)]
  refine wp_store_sp (cell cs) rfl rfl rfl hs2d ?_
  refine hK.out _ _ (putSp_other hHeld (by omega)) (fun hHeld => ?_)
  clear hK K
  try simp only [Act.put, List.getElem_toArray, List.getElem_cons_succ, List.getElem_cons_zero, List.setIfInBounds_toArray, List.set_cons_zero, List.set_cons_succ]
  refine wpAnyH_ready (rs := [12]) (by kernel_rfl) (by simp) ?_
  refine AllReadyH.cons rfl (fun K hK => ?_) AllReadyH.nil
  go_simp
  refine hK.out _ _ hHeld (fun hHeld => ?_)
  clear hK K
  try simp only [Act.put, List.getElem_toArray, List.getElem_cons_succ, List.getElem_cons_zero, List.setIfInBounds_toArray, List.set_cons_zero, List.set_cons_succ]
  refine wpAnyH_ready (rs := [13]) (by kernel_rfl) (by simp) ?_
  refine AllReadyH.cons rfl (fun K hK => ?_) AllReadyH.nil
  go_simp
  refine hK.out _ _ hHeld (fun hHeld => ?_)
  clear hK K
  try simp only [Act.put, List.getElem_toArray, List.getElem_cons_succ, List.getElem_cons_zero, List.setIfInBounds_toArray, List.set_cons_zero, List.set_cons_succ]
  refine wpAnyH_done (by kernel_rfl) ?_ _
  refine NoPanic.normal ?_
  go_wp2_with fail
  refine bodyPost_ret (results_sp3 rfl rfl (putSp_sp hs2d).load) rfl ?_
  subst hB0
  refine ⟨?_, putSp_below hbd (Nat.le_refl _)⟩
  rw [show setB cs.length code = codesB cs.length [code] by simp [codesB]]
  rfl
set_option maxRecDepth 100000 in
set_option maxHeartbeats 1600000 in
theorem both_bad (v : Value) (l : List Int) (code : Int) (w : World) (hr : Reads w v l) (hs : spL l = false) (hT : Tab w) :
    Calls Tryd.prog 9 #[v, .int .i64 code] w fun e w' => ∃ n c u, e = .returned (.tuple #[spF n c, .int .u64 u, .bool false]) ∧ Below w.heap.size w w' := by
  have hal : Below w.heap.size w (w.alloc (.cells #[.int .i64 0, .int .u64 0, .int .u64 0, .int .u64 0, .int .u64 0, .int .u64 0, .int .u64 0] 35)) := (Below.refl _ _).alloc (Nat.le_refl _) _
  have hr0 := hr.below hal
  have hb0 := heap_alloc_new w (.cells #[.int .i64 0, .int .u64 0, .int .u64 0, .int .u64 0, .int .u64 0, .int .u64 0, .int .u64 0] 35)
  obtain ⟨a, cap, rfl, _, _, _⟩ := hr.open
  clear hr
  go_enter Tryd.func9, Tryd.ntmps9
  go_wp2_with fail
  refine (newSpace_no _ l _ hr0 hs (hT.below hal)).mono ?_
  rintro e w1 ⟨n, c, rfl, hb1⟩
  have hb2 : SpF w1 w.heap.size 0 (fun _ => 0) := (hb1.block _ (heap_lt hb0)).trans hb0
  have hbw1 := below_to hal hal.size hb1
  clear hr0 hb0 hb1 hal
  have hal : Below w1.heap.size w1 (w1.alloc (.cells #[.int .i64 n, .int .u64 (c 0), .int .u64 (c 1), .int .u64 (c 2), .int .u64 (c 3), .int .u64 (c 4), .int .u64 (c 5)] 35)) := (Below.refl _ _).alloc (Nat.le_refl _) _
  have hs2 := hb2.below hal
  have hs1 : SpF (w1.alloc (.cells #[.int .i64 n, .int .u64 (c 0), .int .u64 (c 1), .int .u64 (c 2), .int .u64 (c 3), .int .u64 (c 4), .int .u64 (c 5)] 35)) w1.heap.size n c := heap_alloc_new _ _
  have hbw := below_to hbw1 hbw1.size hal
  have hlt := hb2.lt
  go_wp2_with fail
  generalize hW : World.alloc w1 _ = W at *
  clear hW hal hbw1 hb2
  generalize hB1 : w1.heap.size = B1 at *
  generalize hB0 : w.heap.size = B0 at *
  clear hB1
  have hd : Below W.heap.size W W.drew := (Below.refl _ _).drew
  have hs1d := hs1.below hd
  have hs2d := hs2.below hd
  have hbd := below_to hbw (by have := hbw.size; omega) hd
  generalize hWd : W.drew = Wd at *
  clear hs1 hs2 hbw hd
  refine region_held_lit (fun w' => SpF w' B1 n c) 14 #[false, false, false, false, false, false, false, false, false, false, false, false, false, false] rfl rfl (by kernel_rfl) (by rw [hWd]; exact hs1d) (fun hHeld => ?_)
  rw [hWd] at hHeld ⊢
  clear hWd
  refine wpAnyH_take (i := 0) (v := spF n c) rfl (by kernel_rfl) (by kernel_rfl) (by kernel_rfl) (fun _ _ _ h => h) (Or.inl ⟨by rfl, fun w' h => exec_load_sp rfl rfl h⟩) hHeld ?_
  try simp only [Act.put, List.getElem_toArray, List.getElem_cons_succ, List.getElem_cons_zero, List.setIfInBounds_toArray, List.set_cons_zero, List.set_cons_succ]
  refine wpAnyH_take (i := 1) (v := _) rfl (by kernel_rfl) (by kernel_rfl) (by kernel_rfl) (fun _ _ _ h => h) (Or.inl ⟨by rfl, fun w' h => by go_simp; rfl⟩) hHeld ?_
  try simp only [Act.put, List.getElem_toArray, List.getElem_cons_succ, List.getElem_cons_zero, List.setIfInBounds_toArray, List.set_cons_zero, List.set_cons_succ]
  refine wpAnyH_take (i := 2) (v := _) rfl (by kernel_rfl) (by kernel_rfl) (by kernel_rfl) (fun _ _ _ h => h) (Or.inl ⟨by rfl, fun w' h => by go_simp; rfl⟩) hHeld ?_
  try simp only [Act.put, List.getElem_toArray, List.getElem_cons_succ, List.getElem_cons_zero, List.setIfInBounds_toArray, List.set_cons_zero, List.set_cons_succ]
  refine wpAnyH_take (i := 3) (v := _) rfl (by kernel_rfl) (by kernel_rfl) (by kernel_rfl) (fun _ _ _ h => h) (Or.inl ⟨by rfl, fun w' h => by go_simp; rfl⟩) hHeld ?_
  try simp only [Act.put, List.getElem_toArray, List.getElem_cons_succ, List.getElem_cons_zero, List.setIfInBounds_toArray, List.set_cons_zero, List.set_cons_succ]
  refine wpAnyH_take (i := 4) (v := _) rfl (by kernel_rfl) (by kernel_rfl) (by kernel_rfl) (fun _ _ _ h => h) (Or.inl ⟨by rfl, fun w' h => by go_simp; rfl⟩) hHeld ?_
  try simp only [Act.put, List.getElem_toArray, List.getElem_cons_succ, List.getElem_cons_zero, List.setIfInBounds_toArray, List.set_cons_zero, List.set_cons_succ]
  refine wpAnyH_take (i := 5) (v := undef) rfl (by kernel_rfl) (by kernel_rfl) (by kernel_rfl) (fun _ _ _ h => h) (Or.inr ⟨by simp [Region.wanted, yielded], rfl⟩) hHeld ?_
  try simp only [Act.put, List.getElem_toArray, List.getElem_cons_succ, List.getElem_cons_zero, List.setIfInBounds_toArray, List.set_cons_zero, List.set_cons_succ]
  refine wpAnyH_take (i := 6) (v := undef) rfl (by kernel_rfl) (by kernel_rfl) (by kernel_rfl) (fun _ _ _ h => h) (Or.inr ⟨by simp [Region.wanted, yielded], rfl⟩) hHeld ?_
  try simp only [Act.put, List.getElem_toArray, List.getElem_cons_succ, List.getElem_cons_zero, List.setIfInBounds_toArray, List.set_cons_zero, List.set_cons_succ]
  refine wpAnyH_take (i := 7) (v := undef) rfl (by kernel_rfl) (by kernel_rfl) (by kernel_rfl) (fun _ _ _ h => h) (Or.inr ⟨by simp [Region.wanted, yielded], rfl⟩) hHeld ?_
  try simp only [Act.put, List.getElem_toArray, List.getElem_cons_succ, List.getElem_cons_zero, List.setIfInBounds_toArray, List.set_cons_zero, List.set_cons_succ]
  refine wpAnyH_take (i := 8) (v := undef) rfl (by kernel_rfl) (by kernel_rfl) (by kernel_rfl) (fun _ _ _ h => h) (Or.inr ⟨by simp [Region.wanted, yielded], rfl⟩) hHeld ?_
  try simp only [Act.put, List.getElem_toArray, List.getElem_cons_succ, List.getElem_cons_zero, List.setIfInBounds_toArray, List.set_cons_zero, List.set_cons_succ]
  refine wpAnyH_take (i := 9) (v := undef) rfl (by kernel_rfl) (by kernel_rfl) (by kernel_rfl) (fun _ _ _ h => h) (Or.inr ⟨by simp [Region.wanted, yielded], rfl⟩) hHeld ?_
  try simp only [Act.put, List.getElem_toArray, List.getElem_cons_succ, List.getElem_cons_zero, List.setIfInBounds_toArray, List.set_cons_zero, List.set_cons_succ]
  refine wpAnyH_take (i := 10) (v := _) rfl (by kernel_rfl) (by kernel_rfl) (by kernel_rfl) (fun _ _ _ h => h) (Or.inl ⟨by rfl, fun w' h => by go_simp; rfl⟩) hHeld ?_
  try simp only [Act.put, List.getElem_toArray, List.getElem_cons_succ, List.getElem_cons_zero, List.setIfInBounds_toArray, List.set_cons_zero, List.set_cons_succ]
  refine wpAnyH_ready (rs := [11]) (by kernel_rfl) (by simp) ?_
  refine AllReadyH.cons rfl (fun K hK => ?_) AllReadyH.nil
  rw [if_pos (by rfl)]
  refine wp_store_sp c rfl rfl rfl hs2d ?_
  refine hK.out _ _ (putSp_other hHeld (by omega)) (fun hHeld => ?_)
  clear hK K
  try simp only [Act.put, List.getElem_toArray, List.getElem_cons_succ, List.getElem_cons_zero, List.setIfInBounds_toArray, List.set_cons_zero, List.set_cons_succ]
  refine wpAnyH_ready (rs := [12]) (by kernel_rfl) (by simp) ?_
  refine AllReadyH.cons rfl (fun K hK => ?_) AllReadyH.nil
  go_simp
  refine hK.out _ _ hHeld (fun hHeld => ?_)
  clear hK K
  try simp only [Act.put, List.getElem_toArray, List.getElem_cons_succ, List.getElem_cons_zero, List.setIfInBounds_toArray, List.set_cons_zero, List.set_cons_succ]
  refine wpAnyH_ready (rs := [13]) (by kernel_rfl) (by simp) ?_
  refine AllReadyH.cons rfl (fun K hK => ?_) AllReadyH.nil
  go_simp
  refine hK.out _ _ hHeld (fun hHeld => ?_)
  clear hK K
  try simp only [Act.put, List.getElem_toArray, List.getElem_cons_succ, List.getElem_cons_zero, List.setIfInBounds_toArray, List.set_cons_zero, List.set_cons_succ]
  refine wpAnyH_done (by kernel_rfl) ?_ _
  refine NoPanic.normal ?_
  go_wp2_with fail
  refine bodyPost_ret (results_sp3 rfl rfl (putSp_sp hs2d).load) rfl ?_
  subst hB0
  exact ⟨_, _, _, rfl, putSp_below hbd (Nat.le_refl _)⟩
theorem code_wrap {n : Nat} {code : Int} (hn : n ≤ 6) (h : setB n code = true) : IntKind.u64.wrap code = (code.toNat : Nat) ∧ code.toNat < 2 ^ n := by
  obtain ⟨h0, h1⟩ := setB_iff.1 h
  have e : ((2 : Int) ^ n) = ((2 ^ n : Nat) : Int) := by push_cast; rfl
  have h2 : code.toNat < 2 ^ n := by omega
  have h3 := lt64_of hn h2
  refine ⟨?_, h2⟩
  have := wrapU code.toNat (by omega)
  rwa [Int.toNat_of_nonneg h0] at this ⊢
theorem both_yes (v : Value) (cs : List Nat) (s : Nat) (w : World) (hr : Reads w v (ofNats cs)) (hc : Codes cs) (hsp : spaceB cs = true) (hs : s < 2 ^ cs.length) (hT : Tab w) :
    Calls Tryd.prog 9 #[v, .int .i64 s] w fun e w' => e = .returned (.tuple #[spV cs, .int .u64 s, .bool true]) ∧ Below w.heap.size w w' := by
  have h := both_ok v cs s w hr hc hsp hT
  have h1 : setB cs.length (s : Int) = true := setB_iff.2 ⟨by omega, by
    have e : ((2 : Int) ^ cs.length) = ((2 ^ cs.length : Nat) : Int) := by push_cast; rfl
    omega⟩
  have h2 := (code_wrap hc.2.1 h1).1
  rw [h1, h2] at h
  exact h
theorem both_no (v : Value) (l : List Int) (code : Int) (w : World) (hr : Reads w v l) (h : (spL l && setB l.length code) = false) (hT : Tab w) :
    Calls Tryd.prog 9 #[v, .int .i64 code] w fun e w' => ∃ n c u, e = .returned (.tuple #[spF n c, .int .u64 u, .bool false]) ∧ Below w.heap.size w w' := by
  rcases hs : spL l with _ | _
  · exact both_bad v l code w hr hs hT
  · rw [hs, Bool.true_and] at h
    obtain ⟨hc, hsp, hl⟩ := spL_get hs
    have hlen : l.length = (natsOf l).length := (natsOf_len l).symm
    rw [hlen] at h
    rw [hl] at hr
    have := both_ok v (natsOf l) code w hr hc hsp hT
    rw [h] at this
    exact this.mono fun e w' h => ⟨_, _, _, h.1, h.2⟩
end Go.Proofs.YtfhcbaamibipcaaDoor
