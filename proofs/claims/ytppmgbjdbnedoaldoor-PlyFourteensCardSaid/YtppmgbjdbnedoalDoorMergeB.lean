import Derived.Test.YtppmgbjdbnedoalDoorMergeA
import Derived.Laws.StructEq
import Derived.Maps.OwnIn
import Derived.Maps.AppendAt
/- ply: both. -/
set_option linter.unusedVariables false
set_option linter.unusedSimpArgs false
namespace Go.Proofs.YtppmgbjdbnedoalDoor
open Go.RowKit

theorem reads_one (w : World) (x : Int) : Reads (w.alloc (.cells #[.int .i64 x] 3)) (.slice (some ⟨w.heap.size, 0, none⟩) 1 1) [x] :=
  ⟨_, 1, rfl, Nat.le_refl _, by simp [maxLen], .inr ⟨w.heap.size, 0, rfl, by simp, fun j hj => by
    have : j = 0 := by simpa using hj
    subst this
    exact cell_of (heap_alloc_new _ _) rfl⟩⟩
set_option maxRecDepth 100000 in
set_option maxHeartbeats 1600000 in
theorem both_ok (v : Value) (cs : List Nat) (code : Int) (w : World) (hr : Reads w v (ofNats cs)) (hc : Codes cs) (hs : spaceB cs = true) (hT : Tab w) :
    Calls Tryd.prog 13 #[v, .int .i64 code] w fun e w' => e = .returned (.tuple #[spV cs, .int .u64 (IntKind.u64.wrap code), .bool (setB cs.length code)]) ∧ Below w.heap.size w w' := by
  have hal : Below w.heap.size w (w.alloc (.cells #[.int .i64 0, .int .u64 0, .int .u64 0, .int .u64 0, .int .u64 0, .int .u64 0, .int .u64 0] 37)) := (Below.refl _ _).alloc (Nat.le_refl _) _
  have hr0 := hr.below hal
  have hb0 := heap_alloc_new w (.cells #[.int .i64 0, .int .u64 0, .int .u64 0, .int .u64 0, .int .u64 0, .int .u64 0, .int .u64 0] 37)
  obtain ⟨a, cap, rfl, _, _, _⟩ := hr.open
  clear hr
  go_enter Tryd.func13, Tryd.ntmps13
  go_wp2_with fail
  refine (newSpace_yes _ cs _ hr0 hc hs (hT.below hal)).mono ?_
  rintro e w1 ⟨rfl, hb1⟩
  have hb2 : SpF w1 w.heap.size 0 (fun _ => 0) := (hb1.block _ (heap_lt hb0)).trans hb0
  have hbw1 := below_to hal hal.size hb1
  clear hr0 hb0 hb1 hal
  have hal : Below w1.heap.size w1 (w1.alloc (.cells #[.int .i64 cs.length, .int .u64 (cell cs 0), .int .u64 (cell cs 1), .int .u64 (cell cs 2), .int .u64 (cell cs 3), .int .u64 (cell cs 4), .int .u64 (cell cs 5)] 37)) := (Below.refl _ _).alloc (Nat.le_refl _) _
  have hs2 := hb2.below hal
  have hs1 : SpF (w1.alloc (.cells #[.int .i64 cs.length, .int .u64 (cell cs 0), .int .u64 (cell cs 1), .int .u64 (cell cs 2), .int .u64 (cell cs 3), .int .u64 (cell cs 4), .int .u64 (cell cs 5)] 37)) w1.heap.size cs.length (cell cs) := heap_alloc_new _ _
  have hbw := below_to hbw1 hbw1.size hal
  have hlt := hb2.lt
  go_wp2_with fail
  generalize hW : World.alloc w1 _ = W at *
  clear hW hal hbw1 hb2
  generalize hB1 : w1.heap.size = B1 at *
  generalize hB0 : w.heap.size = B0 at *
  clear hB1
  have hd : Below W.heap.size W W.drew := (Below.refl _ _).drew
  have hs1d := hs1.below hd
  have hs2d := hs2.below hd
  have hbd := below_to hbw (by have := hbw.size; omega) hd
  generalize hWd : W.drew = Wd at *
  clear hs1 hs2 hbw hd
  refine region_held_lit (fun w' => SpF w' B1 cs.length (cell cs)) 14 #[false, false, false, false, false, false, false, false, false, false, false, false, false, false] rfl rfl (by kernel_rfl) (by rw [hWd]; exact hs1d) (fun hHeld => ?_)
  rw [hWd] at hHeld ⊢
  clear hWd
  refine wpAnyH_take (i := 0) (v := spF cs.length (cell cs)) rfl (by kernel_rfl) (by kernel_rfl) (by kernel_rfl) (fun _ _ _ h => h) (Or.inl ⟨by rfl, fun w' h => exec_load_sp rfl rfl h⟩) hHeld ?_
  try simp only [Act.put, List.getElem_toArray, List.getElem_cons_succ, List.getElem_cons_zero, List.setIfInBounds_toArray, List.set_cons_zero, List.set_cons_succ]
  refine wpAnyH_take (i := 1) (v := _) rfl (by kernel_rfl) (by kernel_rfl) (by kernel_rfl) (fun _ _ _ h => h) (Or.inl ⟨by rfl, fun w' h => by go_simp; rfl⟩) hHeld ?_
  try simp only [Act.put, List.getElem_toArray, List.getElem_cons_succ, List.getElem_cons_zero, List.setIfInBounds_toArray, List.set_cons_zero, List.set_cons_succ]
  refine wpAnyH_take (i := 2) (v := _) rfl (by kernel_rfl) (by kernel_rfl) (by kernel_rfl) (fun _ _ _ h => h) (Or.inl ⟨by rfl, fun w' h => by go_simp; rfl⟩) hHeld ?_
  try simp only [Act.put, List.getElem_toArray, List.getElem_cons_succ, List.getElem_cons_zero, List.setIfInBounds_toArray, List.set_cons_zero, List.set_cons_succ]
  refine wpAnyH_take (i := 3) (v := _) rfl (by kernel_rfl) (by kernel_rfl) (by kernel_rfl) (fun _ _ _ h => h) (Or.inl ⟨by rfl, fun w' h => by go_simp; rfl⟩) hHeld ?_
  try simp only [Act.put, List.getElem_toArray, List.getElem_cons_succ, List.getElem_cons_zero, List.setIfInBounds_toArray, List.set_cons_zero, List.set_cons_succ]
  refine wpAnyH_take (i := 4) (v := _) rfl (by kernel_rfl) (by kernel_rfl) (by kernel_rfl) (fun _ _ _ h => h) (Or.inl ⟨by rfl, fun w' h => by go_simp; rfl⟩) hHeld ?_
  try simp only [Act.put, List.getElem_toArray, List.getElem_cons_succ, List.getElem_cons_zero, List.setIfInBounds_toArray, List.set_cons_zero, List.set_cons_succ]
  refine wpAnyH_take (i := 5) (v := _) rfl (by kernel_rfl) (by kernel_rfl) (by kernel_rfl) (fun _ _ _ h => h) (Or.inl ⟨by rfl, fun w' h => by go_simp; rfl⟩) hHeld ?_
  try simp only [Act.put, List.getElem_toArray, List.getElem_cons_succ, List.getElem_cons_zero, List.setIfInBounds_toArray, List.set_cons_zero, List.set_cons_succ]
  refine wpAnyH_take (i := 6) (v := _) rfl (by kernel_rfl) (by kernel_rfl) (by kernel_rfl) (fun _ _ _ h => h) (Or.inl ⟨by rfl, fun w' h => by have h0 := h.n; go_simp; rfl⟩) hHeld ?_
  try simp only [Act.put, List.getElem_toArray, List.getElem_cons_succ, List.getElem_cons_zero, List.setIfInBounds_toArray, List.set_cons_zero, List.set_cons_succ]
  refine wpAnyH_take (i := 7) (v := _) rfl (by kernel_rfl) (by kernel_rfl) (by kernel_rfl) (fun _ _ _ h => h) (Or.inl ⟨by rfl, fun w' h => by go_simp; rfl⟩) hHeld ?_
  try simp only [Act.put, List.getElem_toArray, List.getElem_cons_succ, List.getElem_cons_zero, List.setIfInBounds_toArray, List.set_cons_zero, List.set_cons_succ]
  refine wpAnyH_ready (rs := [8]) (by kernel_rfl) (by simp) ?_
  refine AllReadyH.cons rfl (fun K hK => ?_) AllReadyH.nil
  go_wp2_with fail
  have hal8 : Below Wd.heap.size Wd (Wd.alloc (.cells #[.int .i64 code] 3)) := (Below.refl _ _).alloc (Nat.le_refl _) _
  have h8 := reads_one Wd code
  refine hK.out _ _ (hs1d.below hal8) (fun hHeld => ?_)
  clear hK K
  have hs2e := hs2d.below hal8
  have hbe := below_to hbd (by have := hbd.size; omega) hal8
  generalize hB8 : Wd.heap.size = B8 at *
  generalize hW8 : World.alloc Wd _ = W8 at *
  clear hW8 hB8 hal8 hs2d hs1d
  try simp only [Act.put, List.getElem_toArray, List.getElem_cons_succ, List.getElem_cons_zero, List.setIfInBounds_toArray, List.set_cons_zero, List.set_cons_succ]
  refine wpAnyH_ready (rs := [9]) (by kernel_rfl) (by simp) ?_
  refine AllReadyH.cons rfl (fun K hK => ?_) AllReadyH.nil
  rw [if_pos (by rfl)]
  go_wp2_with fail
  refine (areCodes_any cs.length _ [code] _ hc.2.1 h8).mono ?_
  rintro e w2 ⟨rfl, hb2⟩
  have hs2d := hs2e.below hb2
  refine hK.out _ _ (hHeld.below hb2) (fun hHeld => ?_)
  have hbd := below_to hbe (by have := hbe.size; omega) hb2
  clear hK K
  try simp only [Act.put, List.getElem_toArray, List.getElem_cons_succ, List.getElem_cons_zero, List.setIfInBounds_toArray, List.set_cons_zero, List.set_cons_succ]
  refine wpAnyH_take (i := 10) (v := _) rfl (by kernel_rfl) (by kernel_rfl) (by kernel_rfl) (fun _ _ _ h => h) (Or.inl ⟨by rfl, fun w' h => by go_simp; rfl⟩) hHeld ?_
  try simp only [Act.put, List.getElem_toArray, List.getElem_cons_succ, List.getElem_cons_zero, List.setIfInBounds_toArray, List.set_cons_zero, List.set_cons_succ]
  refine wpAnyH_ready (rs := [11]) (by kernel_rfl) (by simp) ?_
  refine AllReadyH.cons rfl (fun K hK => ?_) AllReadyH.nil
  rw [if_pos (by rfl)]
  refine wp_store_sp (cell cs) rfl rfl rfl hs2d ?_
  refine hK.out _ _ (putSp_other hHeld (by omega)) (fun hHeld => ?_)
  clear hK K
  try simp only [Act.put, List.getElem_toArray, List.getElem_cons_succ, List.getElem_cons_zero, List.setIfInBounds_toArray, List.set_cons_zero, List.set_cons_succ]
  refine wpAnyH_ready (rs := [12]) (by kernel_rfl) (by simp) ?_
  refine AllReadyH.cons rfl (fun K hK => ?_) AllReadyH.nil
  go_simp
  refine hK.out _ _ hHeld (fun hHeld => ?_)
  clear hK K
  try simp only [Act.put, List.getElem_toArray, List.getElem_cons_succ, List.getElem_cons_zero, List.setIfInBounds_toArray, List.set_cons_zero, List.set_cons_succ]
  refine wpAnyH_ready (rs := [13]) (by kernel_rfl) (by simp) ?_
  refine AllReadyH.cons rfl (fun K hK => ?_) AllReadyH.nil
  go_simp
  refine hK.out _ _ hHeld (fun hHeld => ?_)
  clear hK K
  try simp only [Act.put, List.getElem_toArray, List.getElem_cons_succ, List.getElem_cons_zero, List.setIfInBounds_toArray, List.set_cons_zero, List.set_cons_succ]
  refine wpAnyH_done (by kernel_rfl) ?_ _
  refine NoPanic.normal ?_
  go_wp2_with fail
  refine bodyPost_ret (results_sp3 rfl rfl (putSp_sp hs2d).load) rfl ?_
  subst hB0
  refine ⟨?_, putSp_below hbd (Nat.le_refl _)⟩
  rw [show setB cs.length code = codesB cs.length [code] by simp [codesB]]
  rfl
set_option maxRecDepth 100000 in
set_option maxHeartbeats 1600000 in
theorem both_bad (v : Value) (l : List Int) (code : Int) (w : World) (hr : Reads w v l) (hs : spL l = false) (hT : Tab w) :
    Calls Tryd.prog 13 #[v, .int .i64 code] w fun e w' => ∃ n c u, e = .returned (.tuple #[spF n c, .int .u64 u, .bool false]) ∧ Below w.heap.size w w' := by
  have hal : Below w.heap.size w (w.alloc (.cells #[.int .i64 0, .int .u64 0, .int .u64 0, .int .u64 0, .int .u64 0, .int .u64 0, .int .u64 0] 37)) := (Below.refl _ _).alloc (Nat.le_refl _) _
  have hr0 := hr.below hal
  have hb0 := heap_alloc_new w (.cells #[.int .i64 0, .int .u64 0, .int .u64 0, .int .u64 0, .int .u64 0, .int .u64 0, .int .u64 0] 37)
  obtain ⟨a, cap, rfl, _, _, _⟩ := hr.open
  clear hr
  go_enter Tryd.func13, Tryd.ntmps13
  go_wp2_with fail
  refine (newSpace_no _ l _ hr0 hs (hT.below hal)).mono ?_
  rintro e w1 ⟨n, c, rfl, hb1⟩
  have hb2 : SpF w1 w.heap.size 0 (fun _ => 0) := (hb1.block _ (heap_lt hb0)).trans hb0
  have hbw1 := below_to hal hal.size hb1
  clear hr0 hb0 hb1 hal
  have hal : Below w1.heap.size w1 (w1.alloc (.cells #[.int .i64 n, .int .u64 (c 0), .int .u64 (c 1), .int .u64 (c 2), .int .u64 (c 3), .int .u64 (c 4), .int .u64 (c 5)] 37)) := (Below.refl _ _).alloc (Nat.le_refl _) _
  have hs2 := hb2.below hal
  have hs1 : SpF (w1.alloc (.cells #[.int .i64 n, .int .u64 (c 0), .int .u64 (c 1), .int .u64 (c 2), .int .u64 (c 3), .int .u64 (c 4), .int .u64 (c 5)] 37)) w1.heap.size n c := heap_alloc_new _ _
  have hbw := below_to hbw1 hbw1.size hal
  have hlt := hb2.lt
  go_wp2_with fail
  generalize hW : World.alloc w1 _ = W at *
  clear hW hal hbw1 hb2
  generalize hB1 : w1.heap.size = B1 at *
  generalize hB0 : w.heap.size = B0 at *
  clear hB1
  have hd : Below W.heap.size W W.drew := (Below.refl _ _).drew
  have hs1d := hs1.below hd
  have hs2d := hs2.below hd
  have hbd := below_to hbw (by have := hbw.size; omega) hd
  generalize hWd : W.drew = Wd at *
  clear hs1 hs2 hbw hd
  refine region_held_lit (fun w' => SpF w' B1 n c) 14 #[false, false, false, false, false, false, false, false, false, false, false, false, false, false] rfl rfl (by kernel_rfl) (by rw [hWd]; exact hs1d) (fun hHeld => ?_)
  rw [hWd] at hHeld ⊢
  clear hWd
  refine wpAnyH_take (i := 0) (v := spF n c) rfl (by kernel_rfl) (by kernel_rfl) (by kernel_rfl) (fun _ _ _ h => h) (Or.inl ⟨by rfl, fun w' h => exec_load_sp rfl rfl h⟩) hHeld ?_
  try simp only [Act.put, List.getElem_toArray, List.getElem_cons_succ, List.getElem_cons_zero, List.setIfInBounds_toArray, List.set_cons_zero, List.set_cons_succ]
  refine wpAnyH_take (i := 1) (v := _) rfl (by kernel_rfl) (by kernel_rfl) (by kernel_rfl) (fun _ _ _ h => h) (Or.inl ⟨by rfl, fun w' h => by go_simp; rfl⟩) hHeld ?_
  try simp only [Act.put, List.getElem_toArray, List.getElem_cons_succ, List.getElem_cons_zero, List.setIfInBounds_toArray, List.set_cons_zero, List.set_cons_succ]
  refine wpAnyH_take (i := 2) (v := _) rfl (by kernel_rfl) (by kernel_rfl) (by kernel_rfl) (fun _ _ _ h => h) (Or.inl ⟨by rfl, fun w' h => by go_simp; rfl⟩) hHeld ?_
  try simp only [Act.put, List.getElem_toArray, List.getElem_cons_succ, List.getElem_cons_zero, List.setIfInBounds_toArray, List.set_cons_zero, List.set_cons_succ]
  refine wpAnyH_take (i := 3) (v := _) rfl (by kernel_rfl) (by kernel_rfl) (by kernel_rfl) (fun _ _ _ h => h) (Or.inl ⟨by rfl, fun w' h => by go_simp; rfl⟩) hHeld ?_
  try simp only [Act.put, List.getElem_toArray, List.getElem_cons_succ, List.getElem_cons_zero, List.setIfInBounds_toArray, List.set_cons_zero, List.set_cons_succ]
  refine wpAnyH_take (i := 4) (v := _) rfl (by kernel_rfl) (by kernel_rfl) (by kernel_rfl) (fun _ _ _ h => h) (Or.inl ⟨by rfl, fun w' h => by go_simp; rfl⟩) hHeld ?_
  try simp only [Act.put, List.getElem_toArray, List.getElem_cons_succ, List.getElem_cons_zero, List.setIfInBounds_toArray, List.set_cons_zero, List.set_cons_succ]
  refine wpAnyH_take (i := 5) (v := undef) rfl (by kernel_rfl) (by kernel_rfl) (by kernel_rfl) (fun _ _ _ h => h) (Or.inr ⟨by simp [Region.wanted, yielded], rfl⟩) hHeld ?_
  try simp only [Act.put, List.getElem_toArray, List.getElem_cons_succ, List.getElem_cons_zero, List.setIfInBounds_toArray, List.set_cons_zero, List.set_cons_succ]
  refine wpAnyH_take (i := 6) (v := undef) rfl (by kernel_rfl) (by kernel_rfl) (by kernel_rfl) (fun _ _ _ h => h) (Or.inr ⟨by simp [Region.wanted, yielded], rfl⟩) hHeld ?_
  try simp only [Act.put, List.getElem_toArray, List.getElem_cons_succ, List.getElem_cons_zero, List.setIfInBounds_toArray, List.set_cons_zero, List.set_cons_succ]
  refine wpAnyH_take (i := 7) (v := undef) rfl (by kernel_rfl) (by kernel_rfl) (by kernel_rfl) (fun _ _ _ h => h) (Or.inr ⟨by simp [Region.wanted, yielded], rfl⟩) hHeld ?_
  try simp only [Act.put, List.getElem_toArray, List.getElem_cons_succ, List.getElem_cons_zero, List.setIfInBounds_toArray, List.set_cons_zero, List.set_cons_succ]
  refine wpAnyH_take (i := 8) (v := undef) rfl (by kernel_rfl) (by kernel_rfl) (by kernel_rfl) (fun _ _ _ h => h) (Or.inr ⟨by simp [Region.wanted, yielded], rfl⟩) hHeld ?_
  try simp only [Act.put, List.getElem_toArray, List.getElem_cons_succ, List.getElem_cons_zero, List.setIfInBounds_toArray, List.set_cons_zero, List.set_cons_succ]
  refine wpAnyH_take (i := 9) (v := undef) rfl (by kernel_rfl) (by kernel_rfl) (by kernel_rfl) (fun _ _ _ h => h) (Or.inr ⟨by simp [Region.wanted, yielded], rfl⟩) hHeld ?_
  try simp only [Act.put, List.getElem_toArray, List.getElem_cons_succ, List.getElem_cons_zero, List.setIfInBounds_toArray, List.set_cons_zero, List.set_cons_succ]
  refine wpAnyH_take (i := 10) (v := _) rfl (by kernel_rfl) (by kernel_rfl) (by kernel_rfl) (fun _ _ _ h => h) (Or.inl ⟨by rfl, fun w' h => by go_simp; rfl⟩) hHeld ?_
  try simp only [Act.put, List.getElem_toArray, List.getElem_cons_succ, List.getElem_cons_zero, List.setIfInBounds_toArray, List.set_cons_zero, List.set_cons_succ]
  refine wpAnyH_ready (rs := [11]) (by kernel_rfl) (by simp) ?_
  refine AllReadyH.cons rfl (fun K hK => ?_) AllReadyH.nil
  rw [if_pos (by rfl)]
  refine wp_store_sp c rfl rfl rfl hs2d ?_
  refine hK.out _ _ (putSp_other hHeld (by omega)) (fun hHeld => ?_)
  clear hK K
  try simp only [Act.put, List.getElem_toArray, List.getElem_cons_succ, List.getElem_cons_zero, List.setIfInBounds_toArray, List.set_cons_zero, List.set_cons_succ]
  refine wpAnyH_ready (rs := [12]) (by kernel_rfl) (by simp) ?_
  refine AllReadyH.cons rfl (fun K hK => ?_) AllReadyH.nil
  go_simp
  refine hK.out _ _ hHeld (fun hHeld => ?_)
  clear hK K
  try simp only [Act.put, List.getElem_toArray, List.getElem_cons_succ, List.getElem_cons_zero, List.setIfInBounds_toArray, List.set_cons_zero, List.set_cons_succ]
  refine wpAnyH_ready (rs := [13]) (by kernel_rfl) (by simp) ?_
  refine AllReadyH.cons rfl (fun K hK => ?_) AllReadyH.nil
  go_simp
  refine hK.out _ _ hHeld (fun hHeld => ?_)
  clear hK K
  try simp only [Act.put, List.getElem_toArray, List.getElem_cons_succ, List.getElem_cons_zero, List.setIfInBounds_toArray, List.set_cons_zero, List.set_cons_succ]
  refine wpAnyH_done (by kernel_rfl) ?_ _
  refine NoPanic.normal ?_
  go_wp2_with fail
  refine bodyPost_ret (results_sp3 rfl rfl (putSp_sp hs2d).load) rfl ?_
  subst hB0
  exact ⟨_, _, _, rfl, putSp_below hbd (Nat.le_refl _)⟩
theorem code_wrap {n : Nat} {code : Int} (hn : n ≤ 6) (h : setB n code = true) : IntKind.u64.wrap code = (code.toNat : Nat) ∧ code.toNat < 2 ^ n := by
  obtain ⟨h0, h1⟩ := setB_iff.1 h
  have e : ((2 : Int) ^ n) = ((2 ^ n : Nat) : Int) := by push_cast; rfl
  have h2 : code.toNat < 2 ^ n := by omega
  have h3 := lt64_of hn h2
  refine ⟨?_, h2⟩
  have := wrapU code.toNat (by omega)
  rwa [Int.toNat_of_nonneg h0] at this ⊢
theorem both_yes (v : Value) (cs : List Nat) (s : Nat) (w : World) (hr : Reads w v (ofNats cs)) (hc : Codes cs) (hsp : spaceB cs = true) (hs : s < 2 ^ cs.length) (hT : Tab w) :
    Calls Tryd.prog 13 #[v, .int .i64 s] w fun e w' => e = .returned (.tuple #[spV cs, .int .u64 s, .bool true]) ∧ Below w.heap.size w w' := by
  have h := both_ok v cs s w hr hc hsp hT
  have h1 : setB cs.length (s : Int) = true := setB_iff.2 ⟨by omega, by
    have e : ((2 : Int) ^ cs.length) = ((2 ^ cs.length : Nat) : Int) := by push_cast; rfl
    omega⟩
  have h2 := (code_wrap hc.2.1 h1).1
  rw [h1, h2] at h
  exact h
theorem both_no (v : Value) (l : List Int) (code : Int) (w : World) (hr : Reads w v l) (h : (spL l && setB l.length code) = false) (hT : Tab w) :
    Calls Tryd.prog 13 #[v, .int .i64 code] w fun e w' => ∃ n c u, e = .returned (.tuple #[spF n c, .int .u64 u, .bool false]) ∧ Below w.heap.size w w' := by
  rcases hs : spL l with _ | _
  · exact both_bad v l code w hr hs hT
  · rw [hs, Bool.true_and] at h
    obtain ⟨hc, hsp, hl⟩ := spL_get hs
    have hlen : l.length = (natsOf l).length := (natsOf_len l).symm
    rw [hlen] at h
    rw [hl] at hr
    have := both_ok v (natsOf l) code w hr hc hsp hT
    rw [h] at this
    exact this.mono fun e w' h => ⟨_, _, _, h.1, h.2⟩
end Go.Proofs.YtppmgbjdbnedoalDoor

/- ply: Closure, Inside, Edge, IsSpace. -/
set_option linter.unusedVariables false
set_option linter.unusedSimpArgs false
namespace Go.Proofs.YtppmgbjdbnedoalDoor
open Go.RowKit

/-- a space laid in memory behind a call -/
theorem lay_sp {w0 w : World} (hb : Below w0.heap.size w0 w) (n : Nat) (c : Nat → Nat) : SpF (w.alloc (.cells #[.int .i64 n, .int .u64 (c 0), .int .u64 (c 1), .int .u64 (c 2), .int .u64 (c 3), .int .u64 (c 4), .int .u64 (c 5)] 37)) w.heap.size n c ∧ Below w0.heap.size w0 (w.alloc (.cells #[.int .i64 n, .int .u64 (c 0), .int .u64 (c 1), .int .u64 (c 2), .int .u64 (c 3), .int .u64 (c 4), .int .u64 (c 5)] 37)) :=
  ⟨heap_alloc_new _ _, hb.alloc hb.size _⟩

set_option maxRecDepth 100000 in
set_option maxHeartbeats 800000 in
theorem Closure_yes (v : Value) (cs : List Nat) (s : Nat) (w : World) (hr : Reads w v (ofNats cs)) (hc : Codes cs) (hsp : spaceB cs = true) (hs : s < 2 ^ cs.length) (hT : Tab w) :
    Calls Tryd.prog 21 #[v, .int .i64 s] w fun e w' => e = .returned (.tuple #[.int .i64 (closureN cs s : Nat), .int .i64 0]) ∧ Below w.heap.size w w' := by
  have hr0 := hr
  obtain ⟨a, cap, rfl, _, _, _⟩ := hr.open
  have hv := wrapI (closureN cs s) (by have := lt64_of hc.2.1 (closure_lt cs s); omega)
  clear hr
  go_enter Tryd.func21, Tryd.ntmps21
  go_wp2_with fail
  refine (both_yes _ cs s _ hr0 hc hsp hs hT).mono ?_
  rintro e w1 ⟨rfl, hb1⟩
  obtain ⟨hs1, hb2⟩ := lay_sp hb1 cs.length (cell cs)
  have hT2 := hT.below hb2
  go_wp2_with fail
  generalize hW : World.alloc w1 _ = W at *
  clear hW
  obtain ⟨d0, d1, d2, d3, d4, d5, d6⟩ := hs1.cells
  clear hs1
  go_wp2_with fail
  refine (closure_any cs s _ hc hs hT2).mono ?_
  rintro e w2 ⟨rfl, hb3⟩
  go_wp2_with fail
  go_ret2
  exact ⟨rfl, below_to hb2 hb2.size hb3⟩

set_option maxRecDepth 100000 in
theorem Closure_no (v : Value) (l : List Int) (code : Int) (w : World) (hr : Reads w v l) (h : (spL l && setB l.length code) = false) (hT : Tab w) :
    Calls Tryd.prog 21 #[v, .int .i64 code] w fun e w' => e = .returned (.tuple #[.int .i64 0, .int .i64 2]) ∧ Below w.heap.size w w' := by
  have hr0 := hr
  obtain ⟨a, cap, rfl, _, _, _⟩ := hr.open
  clear hr
  go_enter Tryd.func21, Tryd.ntmps21
  go_wp2_with fail
  refine (both_no _ l code _ hr0 h hT).mono ?_
  rintro e w1 ⟨n, c, u, rfl, hb1⟩
  obtain ⟨hs1, hb2⟩ := lay_sp hb1 n c
  go_wp2_with fail
  go_ret2
  exact ⟨rfl, hb2⟩

def edgeN (cs : List Nat) (s : Nat) : Nat := diff (closureN cs s) (insideN cs s)
end Go.Proofs.YtppmgbjdbnedoalDoor

/- Appends of ints that leave blocks of other types. -/
set_option linter.unusedVariables false
set_option linter.unusedSimpArgs false
namespace Go.Proofs.YtppmgbjdbnedoalDoor
open Go.RowKit

/-- blocks that hold no ints are as they were -/
def KeepNI (w w' : World) : Prop := ∀ (k : Nat) (o : Obj), w.heap[k]? = some o → (∀ cs fr, o ≠ .cells cs 3 fr) → w'.heap[k]? = some o
theorem KeepNI.sp {w w' : World} {b n : Nat} {c : Nat → Nat} (h : KeepNI w w') (hs : SpF w b n c) : SpF w' b n c := h b _ hs (fun cs fr e => by
  injection e with _ h2 _
  exact absurd h2 (by decide))
theorem KeepNI.set {w w' : World} {b : Nat} {c : Array Value} (h : KeepNI w w') (hs : w.heap[b]? = some (.cells c 34)) : w'.heap[b]? = some (.cells c 34) := h b _ hs (fun cs fr e => by
  injection e with _ h2 _
  exact absurd h2 (by decide))
theorem Col.notInt {w0 w : World} {v : Value} {xs : List Int} (h : Col w0 w v xs) : ∀ r, v.ownBlock = some r → ∃ cs fr, w.heap[r]? = some (.cells cs 3 fr) := by
  intro r hr
  obtain ⟨_, h1 | ⟨g, cap, cur, h1, hb, hg, hn, hm, hc, ht⟩⟩ := h.own
  · rw [h1.1] at hr; cases hr
  · rw [h1] at hr; cases hr; exact ⟨_, _, hg⟩

theorem append_intK {ops : Array Oper} {rest : List Oper} {o : Oper} {a : Act} {w0 w : World} {Q : Exit → Act → World → Prop} (hgd : o.guard = none) (s x : Operand)
    (ho : o.op = .call { callee := .builtin .append, args := #[s, x], argTypes := #[22, 22] }) {v : Value} {xs : List Int} (hc : Col w0 w v xs) (hs : a.eval s = v)
    (y : Int) (hx : a.eval x = .slice (some ⟨w.heap.size, 0, none⟩) 1 1) (hlen : xs.length ≤ 1000000000)
    (h : ∀ v' w', Col w0 w' v' (xs ++ [y]) → v' ≠ .slice none 0 0 → KeepNI w w' → wpList Tryd.prog ops Q rest (a.put o.dst v') w') : wpList Tryd.prog ops Q (o :: rest) a (w.alloc (.cells #[.int .i64 y] 3)) := by
  obtain ⟨i0, hi, hz0, hz1, hz2⟩ := info_parts infoInt
  refine wpList_append_own _ hgd s x 22 ho w0.heap.size 3 i0 (.int .i64 0) 1 8 Tryd.underlying22 hi hz0 hz1 hz2 rfl (by decide) v xs.length (xs.map (Value.int .i64)) hs (hc.own.alloc _) ⟨w.heap.size, 0, none⟩ 1 1 [.int .i64 y] hx rfl (cell_one_new _ _ _) (by simp [Value.oneCell']) (by simp only [maxLen]; omega) (by omega) (by have := hc.below.size; simp; omega) ?_
  intro v' w' hown' hgrow hnil
  refine h v' w' ⟨by simpa using hown', ?_⟩ (fun e => by simpa using (hnil.1 e).2) ?_
  · refine (hc.below.alloc hc.below.size _).grown hgrow (by have := hc.below.size; simp; omega) ?_
    intro k hk
    exact (World.ownsRow.lt (hc.own.alloc (.cells #[.int .i64 y] 3)) k hk.symm.symm).1
  · intro k o' hk hno
    have hk2 : (w.alloc (.cells #[.int .i64 y] 3)).heap[k]? = some o' := alloc_old hk
    refine (hgrow.block k (heap_lt hk2) (fun e => ?_)).trans hk2
    obtain ⟨cs, fr, hr⟩ := hc.notInt k e.symm
    rw [hk] at hr
    exact hno cs fr (Option.some.inj hr)
end Go.Proofs.YtppmgbjdbnedoalDoor

/- ply: turned. -/
set_option linter.unusedVariables false
set_option linter.unusedSimpArgs false
namespace Go.Proofs.YtppmgbjdbnedoalDoor
open Go.RowKit

/-- the turned cells, as far as place q of row p -/
def tpart (cs : List Nat) (p q j : Nat) : Nat := if j < p then gather (fun i => (cell cs i).testBit j) cs.length else if j = p then gather (fun i => (cell cs i).testBit j) q else 0
theorem tpart_next (cs : List Nat) (p q j : Nat) : tpart cs p (q + 1) j = if j = p then tpart cs p q p ||| (if (cell cs q).testBit p = true then 2 ^ q else 0) else tpart cs p q j := by
  unfold tpart
  by_cases h : j = p
  · subst h; simp [gather]
  · simp [h]
theorem tpart_row (cs : List Nat) (p j : Nat) : tpart cs p cs.length j = tpart cs (p + 1) 0 j := by
  unfold tpart
  by_cases h : j < p
  · simp [h, show j < p + 1 by omega]
  · by_cases e : j = p
    · subst e; simp
    · have h1 : ¬ j < p + 1 := by omega
      by_cases e2 : j = p + 1
      · subst e2; simp [gather, show ¬ p + 1 < p by omega]
      · simp [h, e, h1, e2]
theorem tpart_all {cs : List Nat} (j : Nat) : tpart cs cs.length 0 j = cell (turnedN cs) j := by
  unfold tpart
  by_cases h : j < cs.length
  · rw [if_pos h, turned_cell h]
  · rw [if_neg h, cell_far (by rw [turned_len]; omega)]
    split <;> simp [gather]
theorem tpart_zero (cs : List Nat) (j : Nat) : tpart cs 0 0 j = 0 := by
  unfold tpart; simp [gather]
theorem tpart_lt {cs : List Nat} (hn : cs.length ≤ 6) {p q j : Nat} (hq : q ≤ 6) : tpart cs p q j < 64 := by
  unfold tpart
  split
  · exact Nat.lt_of_lt_of_le (gather_lt _ _) (Nat.pow_le_pow_right (n := 2) (by omega) hn)
  · split
    · exact Nat.lt_of_lt_of_le (gather_lt _ _) (Nat.pow_le_pow_right (n := 2) (by omega) hq)
    · decide

set_option maxRecDepth 100000 in
set_option maxHeartbeats 1600000 in
theorem turned_any (cs : List Nat) (w : World) (hc : Codes cs) :
    Calls Tryd.prog 16 #[spV cs] w fun e w' => e = .returned (spV (turnedN cs)) ∧ Below w.heap.size w w' := by
  have hn6 := hc.2.1
  have h64 := cell_64 hc
  have H64 := Lib.hid h64
  have HALL := Lib.hid (tpart_all (cs := cs))
  have HTL := Lib.hid (turned_len cs)
  clear hc h64
  go_enter Tryd.func16, Tryd.ntmps16
  go_wp2_with fail
  generalize hW : World.alloc (World.alloc (World.alloc w _) _) _ = W
  have hb1 : SpF W w.heap.size cs.length (cell cs) := by rw [← hW]; exact alloc_old (alloc_old (heap_alloc_new _ _))
  have hb2 : SpF W (w.heap.size + 1) 0 (fun _ => 0) := by rw [← hW]; exact alloc_old (heap_alloc_at _ _ _ (by simp))
  have hb3 : SpF W (w.heap.size + 2) cs.length (fun _ => 0) := by rw [← hW]; exact heap_alloc_at _ _ _ (by simp)
  have hbw : Below w.heap.size w W := by rw [← hW]; exact (((Below.refl _ _).alloc (Nat.le_refl _) _).alloc (by simp) _).alloc (by simp <;> omega) _
  clear hW
  go_loopw [11] (fun i wr => ∃ p : Nat, p ≤ cs.length ∧ i = .int .i64 p ∧ SpF wr w.heap.size cs.length (cell cs) ∧ SpF wr (w.heap.size + 1) 0 (fun _ => 0) ∧ SpF wr (w.heap.size + 2) cs.length (tpart cs p 0) ∧ Below w.heap.size w wr) (fun i _ => cs.length - (intOf i).toNat)
  case atStart => exact ⟨0, by omega, rfl, hb1, hb2, hb3.same (fun j => (tpart_zero cs j).symm), hbw⟩
  case round =>
    obtain ⟨p, hp, rfl, s1, s2, s3, hbr⟩ := hrel
    by_cases hlt : p < cs.length
    · have k0 : (0 : Int) ≤ (p : Int) := by omega
      have k1 : (p : Int) < (cs.length : Int) := by omega
      have k6 : (p : Int) < 6 := by omega
      have q0 := s1.n
      go_wp2_with fail
      go_loopw [16] (fun i wr => ∃ q : Nat, q ≤ cs.length ∧ i = .int .i64 q ∧ SpF wr w.heap.size cs.length (cell cs) ∧ SpF wr (w.heap.size + 1) 0 (fun _ => 0) ∧ SpF wr (w.heap.size + 2) cs.length (tpart cs p q) ∧ Below w.heap.size w wr) (fun i _ => cs.length - (intOf i).toNat)
      case atStart => exact ⟨0, by omega, rfl, s1, s2, s3, hbr⟩
      case round =>
        obtain ⟨q, hq, rfl, r1, r2, r3, hbq⟩ := hrel
        clear q0
        by_cases hlt2 : q < cs.length
        · have j0 : (0 : Int) ≤ (q : Int) := by omega
          have j1 : (q : Int) < (cs.length : Int) := by omega
          have j6 : (q : Int) < 6 := by omega
          have c1 := r1.cell (p := q) (by omega)
          have c3 := r3.cell (p := p) (by omega)
          have f3 := r3.free (1 + p)
          have hcq := H64.out q
          rcases hbit : (cell cs q).testBit p with _ | _
          · have hrow : ∀ j, tpart cs p q j = tpart cs p (q + 1) j := fun j => by
              rw [tpart_next, hbit]
              by_cases e : j = p
              · subst e; simp
              · simp [e]
            have R1 := Lib.hid r1
            have R2 := Lib.hid r2
            have R3 := Lib.hid (r3.same hrow)
            have HB := Lib.hid hbq
            have HBIT := Lib.hid hbit
            clear r1 r2 r3 hbq hrow hbit
            go_wp2_with fail
            refine (has_any (cell cs q) p _ hcq (by omega)).mono ?_
            rintro e w' ⟨rfl, rfl⟩
            rw [HBIT.out]
            go_wp2_with fail
            go_roundw
            case rel => exact ⟨q + 1, by omega, by go_num, R1.out, R2.out, R3.out, HB.out⟩
            case measure => simp [intOf]; omega
          · have htl := tpart_lt (cs := cs) hn6 (p := p) (q := q) (j := p) (by omega)
            have hsh := shl_num q (by omega)
            have hor : bits .or .u64 (tpart cs p q p : Int) ((2 : Int) ^ q) = ((tpart cs p q p ||| 2 ^ q : Nat) : Int) := by
              have := u64_or (tpart cs p q p) (2 ^ q) (by omega) (by have := pow_lt64 (p := q) (by omega); omega)
              rwa [show (((2 ^ q : Nat) : Int)) = (2 : Int) ^ q by push_cast; rfl] at this
            have hset := fun (W : World) (h : SpF W (w.heap.size + 2) cs.length (tpart cs p q)) => SpF.set (c' := tpart cs p (q + 1)) h (p := p) (v := tpart cs p q p ||| 2 ^ q) (by omega) (fun j _ => by rw [tpart_next, hbit]; simp)
            have HSET := Lib.hid hset
            have R1 := Lib.hid r1
            have R2 := Lib.hid r2
            have R3 := Lib.hid r3
            have HB := Lib.hid hbq
            have HBIT := Lib.hid hbit
            clear r1 r2 r3 hbq hset hbit
            go_wp2_with fail
            refine (has_any (cell cs q) p _ hcq (by omega)).mono ?_
            rintro e w' ⟨rfl, rfl⟩
            rw [HBIT.out]
            go_wp2_with fail
            refine (wpIn_wide (n := 20)).1 ?_
            refine region_then 9 rfl rfl rfl (by kernel_rfl) (by kernel_rfl) (by kernel_rfl) (by kernel_rfl) (by kernel_rfl) (by kernel_rfl) ?_
            dsimp only [List.dropLast]
            repeat (gi_big_quiet_step (fail))
            refine wpQuietIn_nil ?_
            intro _ hw'
            obtain ⟨nq, hw''⟩ := hw'
            subst hw''
            go_simp
            go_at_K
            go_wp2_with fail
            go_roundw
            case rel =>
              refine ⟨q + 1, by omega, by go_num, (R1.out.drewN _).other (by omega), (R2.out.drewN _).other (by omega), HSET.out _ (R3.out.drewN _), ?_⟩
              exact (below_to HB.out HB.out.size (below_drewN _ _)).setCell (p := ⟨w.heap.size + 1 + 1, 1 + p, none⟩) (by simp <;> omega) _
            case measure => simp [intOf]; omega
        · have hqn : q = cs.length := by omega
          have hrow : ∀ j, tpart cs p q j = tpart cs (p + 1) 0 j := fun j => by rw [hqn]; exact tpart_row cs p j
          have R1 := Lib.hid r1
          have R2 := Lib.hid r2
          have R3 := Lib.hid (r3.same hrow)
          have HB := Lib.hid hbq
          clear r1 r2 r3 hbq hrow
          go_wp2_with fail
          go_roundw
          case rel => exact ⟨p + 1, by omega, by go_num, R1.out, R2.out, R3.out, HB.out⟩
          case measure => simp [intOf]; omega
    · have hpn : p = cs.length := by omega
      have s4 : SpF wr (w.heap.size + 2) cs.length (cell (turnedN cs)) := s3.same (fun j => by rw [hpn]; exact HALL.out j)
      obtain ⟨d0, d1, d2, d3, d4, d5, d6⟩ := s4.cells
      obtain ⟨e0, e1, e2, e3, e4, e5, e6⟩ := s2.cells
      have fz := s2.free
      clear s1 s3
      go_wp2_with fail
      have s5 := SpF.store (n' := cs.length) (cell (turnedN cs)) s2
      have hb5 := hbr.set7 (b := w.heap.size + 1) (by omega) (.int .i64 cs.length) (.int .u64 (cell (turnedN cs) 0)) (.int .u64 (cell (turnedN cs) 1)) (.int .u64 (cell (turnedN cs) 2)) (.int .u64 (cell (turnedN cs) 3)) (.int .u64 (cell (turnedN cs) 4)) (.int .u64 (cell (turnedN cs) 5))
      refine bodyPost_ret (results_sp rfl rfl s5.load) rfl ?_
      refine ⟨?_, hb5⟩
      rw [← HTL.out]
end Go.Proofs.YtppmgbjdbnedoalDoor

/- Chains counted from below and from above: plain sums. -/
set_option linter.unusedVariables false
set_option linter.unusedSimpArgs false
namespace Go.Proofs.YtppmgbjdbnedoalDoor

def sumTo (h : Nat → Int) : Nat → Int
  | 0 => 0
  | n + 1 => sumTo h n + h n
theorem sumTo_same {h k : Nat → Int} : ∀ n, (∀ i, i < n → h i = k i) → sumTo h n = sumTo k n
  | 0, _ => rfl
  | n + 1, e => by unfold sumTo; rw [sumTo_same n (fun i hi => e i (by omega)), e n (by omega)]
theorem sumTo_add (h k : Nat → Int) : ∀ n, sumTo (fun i => h i + k i) n = sumTo h n + sumTo k n
  | 0 => rfl
  | n + 1 => by unfold sumTo; rw [sumTo_add h k n]; omega
theorem sumTo_mul (c : Int) (h : Nat → Int) : ∀ n, sumTo (fun i => c * h i) n = c * sumTo h n
  | 0 => by simp [sumTo]
  | n + 1 => by unfold sumTo; rw [sumTo_mul c h n, Int.mul_add]
theorem sumTo_zero : ∀ n, sumTo (fun _ => 0) n = 0
  | 0 => rfl
  | n + 1 => by unfold sumTo; rw [sumTo_zero n]; rfl
theorem sumTo_swap (h : Nat → Nat → Int) (m : Nat) : ∀ n, sumTo (fun i => sumTo (fun j => h i j) m) n = sumTo (fun j => sumTo (fun i => h i j) n) m
  | 0 => by simp only [sumTo]; rw [sumTo_zero]
  | n + 1 => by
    show sumTo (fun i => sumTo (fun j => h i j) m) n + sumTo (fun j => h n j) m = _
    rw [sumTo_swap h m n, ← sumTo_add]
    rfl
/-- the sum over all points is the same from below and from above -/
theorem chains_dual (n : Nat) (A : Nat → Nat → Bool) (f g : Nat → Int) (hf : ∀ p, p < n → f p + sumTo (fun q => if A q p = true then f q else 0) n = 1)
    (hg : ∀ p, p < n → g p + sumTo (fun q => if A p q = true then g q else 0) n = 1) : sumTo f n = sumTo g n := by
  have e1 : sumTo g n = sumTo (fun p => g p * f p) n + sumTo (fun p => sumTo (fun q => if A q p = true then g p * f q else 0) n) n := by
    rw [← sumTo_add]
    refine sumTo_same n fun p hp => ?_
    have h := hf p hp
    have h2 : sumTo (fun q => if A q p = true then g p * f q else 0) n = g p * sumTo (fun q => if A q p = true then f q else 0) n := by
      rw [← sumTo_mul]
      refine sumTo_same n fun q _ => ?_
      by_cases ha : A q p = true
      · rw [if_pos ha, if_pos ha]
      · rw [if_neg ha, if_neg ha, Int.mul_zero]
    rw [h2, ← Int.mul_add, h, Int.mul_one]
  have e2 : sumTo f n = sumTo (fun q => f q * g q) n + sumTo (fun q => sumTo (fun p => if A q p = true then f q * g p else 0) n) n := by
    rw [← sumTo_add]
    refine sumTo_same n fun q hq => ?_
    have h := hg q hq
    have h2 : sumTo (fun p => if A q p = true then f q * g p else 0) n = f q * sumTo (fun p => if A q p = true then g p else 0) n := by
      rw [← sumTo_mul]
      refine sumTo_same n fun p _ => ?_
      by_cases ha : A q p = true
      · rw [if_pos ha, if_pos ha]
      · rw [if_neg ha, if_neg ha, Int.mul_zero]
    rw [h2, ← Int.mul_add, h, Int.mul_one]
  rw [e1, e2, sumTo_swap (fun p q => if A q p = true then g p * f q else 0) n n]
  have e3 : sumTo (fun p => g p * f p) n = sumTo (fun q => f q * g q) n := sumTo_same n fun p _ => Int.mul_comm _ _
  have e4 : sumTo (fun q => sumTo (fun p => if A q p = true then g p * f q else 0) n) n = sumTo (fun q => sumTo (fun p => if A q p = true then f q * g p else 0) n) n := sumTo_same n fun q _ => sumTo_same n fun p _ => by rw [Int.mul_comm]
  rw [e3, e4]
end Go.Proofs.YtppmgbjdbnedoalDoor

/- Chains of a plain space: counted downwards and upwards. -/
set_option linter.unusedVariables false
set_option linter.unusedSimpArgs false
namespace Go.Proofs.YtppmgbjdbnedoalDoor

def plainB (cs : List Nat) : Bool := (List.range cs.length).all fun i => (List.range i).all fun k => decide (cell cs k ≠ cell cs i)
theorem plain_iff {cs : List Nat} : plainB cs = true ↔ ∀ i k, i < cs.length → k < i → cell cs k ≠ cell cs i := by
  unfold plainB
  simp only [List.all_eq_true, List.mem_range, decide_eq_true_eq]
  exact ⟨fun h i k hi hk => h i hi k hk, fun h i hi k hk => h i k hi hk⟩
theorem plain_ne {cs : List Nat} (hp : plainB cs = true) {i k : Nat} (hi : i < cs.length) (hk : k < cs.length) (hne : i ≠ k) : cell cs i ≠ cell cs k := by
  by_cases h : i < k
  · exact plain_iff.1 hp k i hk h
  · exact (plain_iff.1 hp i k hi (by omega)).symm
/-- q is below p -/
def ltP (cs : List Nat) (q p : Nat) : Bool := decide (q ≠ p) && (cell cs p).testBit q
theorem lt_less {cs : List Nat} (hs : spaceB cs = true) (hp : plainB cs = true) {q p : Nat} (hq : q < cs.length) (hpn : p < cs.length) (h : ltP cs q p = true) : cell cs q < cell cs p := by
  unfold ltP at h
  rw [Bool.and_eq_true, decide_eq_true_eq] at h
  have h1 := sub_and ((space_iff.1 hs p hpn).2 q hq h.2)
  have h2 := plain_ne hp hq hpn h.1
  have h3 : cell cs q &&& cell cs p ≤ cell cs p := Nat.and_le_right
  omega

def dnF (cs : List Nat) : Nat → Nat → Int
  | 0, _ => 0
  | k + 1, p => 1 - sumTo (fun q => if ltP cs q p = true then dnF cs k q else 0) cs.length
def upF (cs : List Nat) : Nat → Nat → Int
  | 0, _ => 0
  | k + 1, p => 1 - sumTo (fun q => if ltP cs p q = true then upF cs k q else 0) cs.length
theorem dn_stable {cs : List Nat} (hs : spaceB cs = true) (hp : plainB cs = true) : ∀ k p, p < cs.length → cell cs p < k → dnF cs (k + 1) p = dnF cs k p
  | 0, p, _, h => by omega
  | k + 1, p, hpn, h => by
    show 1 - sumTo (fun q => if ltP cs q p = true then dnF cs (k + 1) q else 0) cs.length = 1 - sumTo (fun q => if ltP cs q p = true then dnF cs k q else 0) cs.length
    congr 1
    refine sumTo_same _ fun q hq => ?_
    by_cases hl : ltP cs q p = true
    · have := lt_less hs hp hq hpn hl
      rw [if_pos hl, if_pos hl, dn_stable hs hp k q hq (by omega)]
    · rw [if_neg hl, if_neg hl]
theorem up_stable {cs : List Nat} (hs : spaceB cs = true) (hp : plainB cs = true) {B : Nat} (hB : ∀ p, cell cs p < B) : ∀ k p, p < cs.length → B - cell cs p < k → upF cs (k + 1) p = upF cs k p
  | 0, p, _, h => by omega
  | k + 1, p, hpn, h => by
    show 1 - sumTo (fun q => if ltP cs p q = true then upF cs (k + 1) q else 0) cs.length = 1 - sumTo (fun q => if ltP cs p q = true then upF cs k q else 0) cs.length
    congr 1
    refine sumTo_same _ fun q hq => ?_
    by_cases hl : ltP cs p q = true
    · have h1 := lt_less hs hp hpn hq hl
      have h2 := hB q
      rw [if_pos hl, if_pos hl, up_stable hs hp hB k q hq (by omega)]
    · rw [if_neg hl, if_neg hl]
theorem dn_more {cs : List Nat} (hs : spaceB cs = true) (hp : plainB cs = true) {p k : Nat} (hpn : p < cs.length) (h : cell cs p < k) : ∀ d, dnF cs (k + d) p = dnF cs k p
  | 0 => rfl
  | d + 1 => by rw [show k + (d + 1) = (k + d) + 1 by omega, dn_stable hs hp _ p hpn (by omega), dn_more hs hp hpn h d]
/-- the numbers from below and from above have the same sum -/
theorem chains_same {cs : List Nat} (hs : spaceB cs = true) (hp : plainB cs = true) (hc : Codes cs) {k m : Nat} (hk : 2 ^ cs.length ≤ k) (hm : 2 ^ cs.length < m) : sumTo (dnF cs k) cs.length = sumTo (upF cs m) cs.length := by
  refine chains_dual cs.length (fun q p => ltP cs q p) _ _ (fun p hpn => ?_) (fun p hpn => ?_)
  · have h1 := hc.2.2 p
    rw [← dn_stable hs hp k p hpn (by omega)]
    show (1 - sumTo (fun q => if ltP cs q p = true then dnF cs k q else 0) cs.length) + _ = 1
    omega
  · rw [← up_stable (B := 2 ^ cs.length) hs hp hc.2.2 m p hpn (Nat.lt_of_le_of_lt (Nat.sub_le _ _) hm)]
    show (1 - sumTo (fun q => if ltP cs p q = true then upF cs m q else 0) cs.length) + _ = 1
    omega
/-- in the turned space below is above -/
theorem lt_turned {cs : List Nat} {q p : Nat} (hq : q < cs.length) (hp : p < cs.length) : ltP (turnedN cs) q p = ltP cs p q := by
  unfold ltP
  rw [turned_bit hp hq]
  by_cases e : q = p
  · subst e; rfl
  · have e2 : ¬ p = q := fun h => e h.symm
    simp [e, e2]
theorem dn_turned {cs : List Nat} : ∀ k p, p < cs.length → dnF (turnedN cs) k p = upF cs k p
  | 0, _, _ => rfl
  | k + 1, p, hp => by
    show 1 - sumTo (fun q => if ltP (turnedN cs) q p = true then dnF (turnedN cs) k q else 0) (turnedN cs).length = 1 - sumTo (fun q => if ltP cs p q = true then upF cs k q else 0) cs.length
    rw [turned_len]
    congr 1
    refine sumTo_same _ fun q hq => ?_
    rw [lt_turned hq hp, dn_turned k q hq]
end Go.Proofs.YtppmgbjdbnedoalDoor

/- ply: list, Turned, isPlain. -/
set_option linter.unusedVariables false
set_option linter.unusedSimpArgs false
namespace Go.Proofs.YtppmgbjdbnedoalDoor
open Go.RowKit

theorem ofNats_take {cs : List Nat} {k : Nat} (hk : k < cs.length) : ofNats (cs.take (k + 1)) = ofNats (cs.take k) ++ [(cell cs k : Int)] := by
  unfold ofNats cell
  rw [List.take_succ_eq_append_getElem hk, List.map_append, List.getD_eq_getElem?_getD, List.getElem?_eq_getElem hk]
  rfl
/-! ### is a set among the cells so far -/
def amongB (c : Nat → Nat) (m s : Nat) : Bool := (List.range m).any fun k => decide (c k = s)
theorem among_iff {c : Nat → Nat} {m s : Nat} : amongB c m s = true ↔ ∃ k, k < m ∧ c k = s := by
  unfold amongB
  rw [List.any_eq_true]
  simp only [List.mem_range, decide_eq_true_eq]
set_option maxRecDepth 100000 in
set_option maxHeartbeats 800000 in
theorem indexSet_any (c : Nat → Nat) (m s B cap n : Nat) (w : World) (hm : m ≤ 6) (hs : SpF w B n c) :
    Calls Tryd.prog 56 #[.slice (some ⟨B, 1, none⟩) m cap, .int .u64 s] w fun e w' => ∃ i : Int, e = .returned (.int .i64 i) ∧ decide (0 ≤ i) = amongB c m s ∧ w = w' := by
  have HS := Lib.hid hs
  clear hs
  go_enter Tryd.func56, Tryd.ntmps56
  go_wp2_with fail
  go_loop [8] (fun i => ∃ k : Nat, k ≤ m ∧ i = .int .i64 k ∧ ∀ j, j < k → c j ≠ s) (fun i => m - (intOf i).toNat)
  case atStart => exact ⟨0, by omega, rfl, fun j hj => absurd hj (by omega)⟩
  case round =>
    obtain ⟨k, hk, rfl, hd⟩ := hrel
    have HD := Lib.hid hd
    clear hd
    by_cases hlt : k < m
    · have q1 := HS.out.cell (p := k) (by omega)
      have k0 : (0 : Int) ≤ (k : Int) := by omega
      have k1 : (k : Int) < (m : Int) := by omega
      by_cases he : c k = s
      · have he2 : ((s : Int) == (c k : Int)) = true := by simp [he]
        have HE := Lib.hid he
        clear he
        go_wp2_with fail
        go_ret
        refine ⟨_, rfl, ?_, rfl⟩
        rw [decide_eq_true (by omega)]
        exact (among_iff.2 ⟨k, hlt, HE.out⟩).symm
      · have he2 : ((s : Int) == (c k : Int)) = false := by
          rw [beq_eq_false_iff_ne]; intro e; apply he; omega
        have HE := Lib.hid he
        clear he
        go_wp2_with fail
        go_round
        case rel => exact ⟨k + 1, by omega, by go_num, fun j hj => by
          by_cases e : j = k
          · subst e; exact HE.out
          · exact HD.out j (by omega)⟩
        case measure => simp [intOf]; omega
    · have hkm : k = m := by omega
      have HA : Hid (amongB c m s = false) := Lib.hid (by
        rcases ha : amongB c m s with _ | _
        · rfl
        · obtain ⟨j, hj, e⟩ := among_iff.1 ha
          exact absurd e (HD.out j (by omega)))
      go_wp2_with fail
      go_ret
      exact ⟨_, rfl, by rw [HA.out]; rfl, rfl⟩
theorem containsSet_any (c : Nat → Nat) (m s B cap n : Nat) (w : World) (hm : m ≤ 6) (hs : SpF w B n c) :
    Calls Tryd.prog 49 #[.slice (some ⟨B, 1, none⟩) m cap, .int .u64 s] w fun e w' => e = .returned (.bool (amongB c m s)) ∧ w = w' := by
  go_enter Tryd.func49, Tryd.ntmps49
  go_wp2_with fail
  refine (indexSet_any c m s B cap n _ hm hs).mono ?_
  rintro e w' ⟨i, rfl, hi, rfl⟩
  have HI := Lib.hid hi
  clear hi
  go_wp2_with fail
  go_ret
  exact ⟨ret_bool HI.out, rfl⟩

set_option maxRecDepth 100000 in
set_option maxHeartbeats 1600000 in
theorem isPlain_any (cs : List Nat) (w : World) (hc : Codes cs) :
    Calls Tryd.prog 39 #[spV cs] w fun e w' => e = .returned (.bool (plainB cs)) ∧ Below w.heap.size w w' := by
  have hn6 := hc.2.1
  clear hc
  go_enter Tryd.func39, Tryd.ntmps39
  go_wp2_with fail
  generalize hW : World.alloc w _ = W
  have hs1 : SpF W w.heap.size cs.length (cell cs) := by rw [← hW]; exact heap_alloc_new _ _
  have hbw : Below w.heap.size w W := by rw [← hW]; exact (Below.refl _ _).alloc (Nat.le_refl _) _
  clear hW
  generalize hB : w.heap.size = B at *
  go_loopw [6] (fun i wr => ∃ k : Nat, k ≤ cs.length ∧ i = .int .i64 k ∧ (∀ p, p < k → amongB (cell cs) p (cell cs p) = false) ∧ SpF wr B cs.length (cell cs) ∧ Below B w wr) (fun i _ => cs.length - (intOf i).toNat)
  case atStart => exact ⟨0, by omega, rfl, fun p hp => absurd hp (by omega), hs1, hbw⟩
  case round =>
    obtain ⟨k, hk, rfl, hd, hsr, hbr⟩ := hrel
    have HD := Lib.hid hd
    have HBR := Lib.hid hbr
    clear hd hs1 hbw hbr
    by_cases hlt : k < cs.length
    · have q1 := hsr.cell (p := k) (by omega)
      have k0 : (0 : Int) ≤ (k : Int) := by omega
      have k00 : ¬ (k : Int) < 0 := by omega
      have k1 : (k : Int) < (cs.length : Int) := by omega
      have k6 : (k : Int) < 6 := by omega
      have k7 : (k : Int) ≤ 6 := by omega
      rcases ha : amongB (cell cs) k (cell cs k) with _ | _
      · have hcall : ∀ w0, SpF w0 B cs.length (cell cs) → Calls Tryd.prog 49 #[.slice (some ⟨B, 1, none⟩) k 6, .int .u64 (cell cs k)] w0 fun e w' => e = .returned (.bool false) ∧ w0 = w' := fun w0 h => by
          have := containsSet_any (cell cs) k (cell cs k) B 6 cs.length w0 (by omega) h
          rwa [ha] at this
        have HCALL := Lib.hid hcall
        have HA := Lib.hid ha
        have HSR := Lib.hid hsr
        clear hcall ha hsr
        go_wp2_with fail
        go_quiet ((go_at_call 49; exact (HCALL.out _ (HSR.out.drewN _)).mono (fun e w' h => ⟨h.1, _, h.2.symm⟩)))
        go_wp2_with fail
        go_roundw
        case rel => exact ⟨k + 1, by omega, by go_num, fun p hp => by
          by_cases e : p = k
          · subst e; exact HA.out
          · exact HD.out p (by omega), HSR.out.drewN _, below_to HBR.out (by rw [← hB]; exact (by subst hB; exact HBR.out.size)) (below_drewN _ _)⟩
        case measure => simp [intOf]; omega
      · have hcall : ∀ w0, SpF w0 B cs.length (cell cs) → Calls Tryd.prog 49 #[.slice (some ⟨B, 1, none⟩) k 6, .int .u64 (cell cs k)] w0 fun e w' => e = .returned (.bool true) ∧ w0 = w' := fun w0 h => by
          have := containsSet_any (cell cs) k (cell cs k) B 6 cs.length w0 (by omega) h
          rwa [ha] at this
        have hno : plainB cs = false := by
          rcases hp : plainB cs with _ | _
          · rfl
          · obtain ⟨j, hj, e⟩ := among_iff.1 ha
            exact absurd e (plain_iff.1 hp k j hlt hj)
        have HCALL := Lib.hid hcall
        have HNO := Lib.hid hno
        have HSR := Lib.hid hsr
        clear hcall ha hsr hno
        go_wp2_with fail
        go_quiet ((go_at_call 49; exact (HCALL.out _ (HSR.out.drewN _)).mono (fun e w' h => ⟨h.1, _, h.2.symm⟩)))
        go_wp2_with fail
        go_ret
        refine ⟨ret_bool HNO.out.symm, ?_⟩
        subst hB
        exact below_to HBR.out HBR.out.size (below_drewN _ _)
    · have hyes : plainB cs = true := plain_iff.2 fun i j hi hj e => by
        have h1 := HD.out i (by omega)
        have h2 := among_iff.2 ⟨j, hj, e⟩
        rw [h1] at h2; cases h2
      have HY := Lib.hid hyes
      clear hyes hsr
      go_wp2_with fail
      go_ret
      refine ⟨ret_bool HY.out.symm, ?_⟩
      subst hB
      exact HBR.out
end Go.Proofs.YtppmgbjdbnedoalDoor

/- Loose points and the core: plain numbers. -/
set_option linter.unusedVariables false
set_option linter.unusedSimpArgs false
namespace Go.Proofs.YtppmgbjdbnedoalDoor

def looseAt (cs : List Nat) (s p q : Nat) : Bool := decide (diff (cell cs p &&& s) (2 ^ p) = cell cs q &&& s) || decide (diff (cell (turnedN cs) p &&& s) (2 ^ p) = cell (turnedN cs) q &&& s)
def looseB (cs : List Nat) (s p : Nat) : Bool := (bitsOf (diff s (2 ^ p))).any fun q => looseAt cs s p q
def firstLoose (cs : List Nat) (s : Nat) : Option Nat := (bitsOf s).find? fun p => looseB cs s p
def coreGo (cs : List Nat) : Nat → Nat → Nat
  | 0, s => s
  | k + 1, s => match firstLoose cs s with
    | none => s
    | some p => coreGo cs k (diff s (2 ^ p))
/-- the first points of those that are alike -/
def firstsTo (cs : List Nat) (k : Nat) : Nat := gather (fun p => (List.range p).all fun k => decide (cell cs k ≠ cell cs p)) k
def firstsN (cs : List Nat) : Nat := firstsTo cs cs.length
def coreOf (cs : List Nat) (s : Nat) : Nat := coreGo cs s s
def coreN (cs : List Nat) : Nat := coreOf cs (firstsN cs)

theorem firstLoose_bit {cs : List Nat} {s p : Nat} (hs : s < 64) (h : firstLoose cs s = some p) : s.testBit p = true ∧ looseB cs s p = true := by
  unfold firstLoose at h
  exact ⟨(bitsOf_mem hs).1 (List.mem_of_find?_eq_some h), by have := List.find?_some h; simpa using this⟩
theorem coreGo_more {cs : List Nat} : ∀ k s, s < 64 → s ≤ k → coreGo cs (k + 1) s = coreGo cs k s
  | 0, s, _, h => by
    obtain rfl : s = 0 := by omega
    rfl
  | k + 1, s, hs, h => by
    show (match firstLoose cs s with | none => s | some p => coreGo cs (k + 1) (diff s (2 ^ p))) = (match firstLoose cs s with | none => s | some p => coreGo cs k (diff s (2 ^ p)))
    rcases hf : firstLoose cs s with _ | p
    · rfl
    · have h1 := diff_lt_self (firstLoose_bit hs hf).1
      exact coreGo_more k _ (by omega) (by omega)
theorem coreGo_same {cs : List Nat} {s : Nat} (hs : s < 64) : ∀ d k, s ≤ k → coreGo cs (k + d) s = coreGo cs k s
  | 0, k, h => rfl
  | d + 1, k, h => by rw [← Nat.add_assoc, coreGo_more _ _ hs (by omega), coreGo_same hs d k h]
theorem core_none {cs : List Nat} {s : Nat} (h : firstLoose cs s = none) : coreOf cs s = s := by
  unfold coreOf
  cases s with
  | zero => rfl
  | succ k =>
    show (match firstLoose cs (k + 1) with | none => k + 1 | some p => coreGo cs k (diff (k + 1) (2 ^ p))) = k + 1
    rw [h]
theorem core_some {cs : List Nat} {s p : Nat} (hs : s < 64) (h : firstLoose cs s = some p) : coreOf cs s = coreOf cs (diff s (2 ^ p)) := by
  have h1 := diff_lt_self (firstLoose_bit hs h).1
  unfold coreOf
  obtain ⟨k, rfl⟩ : ∃ k, s = k + 1 := ⟨s - 1, by omega⟩
  show (match firstLoose cs (k + 1) with | none => k + 1 | some p => coreGo cs k (diff (k + 1) (2 ^ p))) = _
  rw [h]
  show coreGo cs k (diff (k + 1) (2 ^ p)) = _
  have := coreGo_same (cs := cs) (s := diff (k + 1) (2 ^ p)) (by omega) (k - diff (k + 1) (2 ^ p)) (diff (k + 1) (2 ^ p)) (Nat.le_refl _)
  rwa [show diff (k + 1) (2 ^ p) + (k - diff (k + 1) (2 ^ p)) = k by omega] at this
/-- what holds of a set and stays as a loose point goes, holds of the core -/
theorem core_ind {cs : List Nat} {P : Nat → Prop} (hstep : ∀ s p, s < 64 → P s → s.testBit p = true → looseB cs s p = true → P (diff s (2 ^ p))) :
    ∀ k s, s ≤ k → s < 64 → P s → P (coreOf cs s) ∧ firstLoose cs (coreOf cs s) = none ∧ coreOf cs s < 64
  | k, s, hk, hs, hP => by
    rcases hf : firstLoose cs s with _ | p
    · rw [core_none hf]; exact ⟨hP, hf, hs⟩
    · have hb := firstLoose_bit hs hf
      have h1 := diff_lt_self hb.1
      rw [core_some hs hf]
      cases k with
      | zero => omega
      | succ k => exact core_ind hstep k _ (by omega) (by omega) (hstep s p hs hP hb.1 hb.2)
theorem firsts_lt (cs : List Nat) (k : Nat) : firstsTo cs k < 2 ^ k := gather_lt _ _
end Go.Proofs.YtppmgbjdbnedoalDoor

/- ply: loose. -/
set_option linter.unusedVariables false
set_option linter.unusedSimpArgs false
namespace Go.Proofs.YtppmgbjdbnedoalDoor
open Go.RowKit Go.Shelf
attribute [local go_sem] Oper.semAt_some

theorem pow_int (p : Nat) : (((2 ^ p : Nat) : Int)) = (2 : Int) ^ p := by push_cast; rfl
theorem eqInt {a b : Nat} (h : a = b) : ((a : Int) == (b : Int)) = true := by simp [h]
theorem neInt {a b : Nat} (h : ¬ a = b) : ((a : Int) == (b : Int)) = false := by
  rw [beq_eq_false_iff_ne]; intro e; apply h; exact_mod_cast e
/-- the two tests of loose, one after the other -/
def loose1 (cs : List Nat) (s p q : Nat) : Bool := decide (diff (cell cs p &&& s) (2 ^ p) = cell cs q &&& s)
theorem looseAt_two (cs : List Nat) (s p q : Nat) : looseAt cs s p q = (loose1 cs s p q || loose1 (turnedN cs) s p q) := rfl

set_option maxRecDepth 100000 in
set_option maxHeartbeats 1600000 in
theorem loose_any (cs : List Nat) (s p : Nat) (w : World) (hc : Codes cs) (hs : s < 2 ^ cs.length) (hp : p < 6) (hT : Tab w) :
    Calls Tryd.prog 50 #[spV cs, .int .u64 s, .int .i64 p] w fun e w' => e = .returned (.bool (looseB cs s p)) ∧ Below w.heap.size w w' := by
  have hn6 := hc.2.1
  have h64 := lt64_of hn6 hs
  have hd64 : diff s (2 ^ p) < 64 := diff_lt (k := 6) h64
  have HC := Lib.hid (cell_64 hc)
  have HCT := Lib.hid (cell_64 (turned_codes hc))
  have HTL := turned_len cs
  have hCODES := Lib.hid hc
  have hsh := shl_num p hp
  have hpw := pow_lt64 hp
  clear hc hs
  refine (callsIn_wide (n := 20)).1 ?_
  refine callsIn_of_wp_marks Tryd.func50 rfl trivial ?_ rfl
  simp only [Tryd.ntmps50, List.size_toArray, List.length_cons, List.length_nil, Nat.reduceAdd, Nat.reduceSub, Array.replicate_succ, Array.replicate_zero, List.push_toArray, List.append_toArray, List.nil_append, List.cons_append]
  gi_wp2_with fail
  generalize hW0 : World.alloc (World.alloc (World.alloc (World.alloc w _) _) _) _ = W0
  have hsz : W0.heap.size = w.heap.size + 4 := by rw [← hW0]; simp
  have hbW : Below w.heap.size w W0 := by rw [← hW0]; exact ((((Below.refl _ _).alloc (Nat.le_refl _) _).alloc (by simp) _).alloc (by simp <;> omega) _).alloc (by simp <;> omega) _
  have hb0 : SpF W0 w.heap.size cs.length (cell cs) := by rw [← hW0]; exact alloc_old (alloc_old (alloc_old (heap_alloc_new _ _)))
  have hb1 : W0.heap[w.heap.size + 1]? = some (.cells #[.int .u64 s] 34) := by rw [← hW0]; exact alloc_old (alloc_old (heap_alloc_at _ _ _ (by simp)))
  have hb2 : W0.heap[w.heap.size + 2]? = some (.cells #[.int .i64 p] 3) := by rw [← hW0]; exact alloc_old (heap_alloc_at _ _ _ (by simp))
  have hb3 : W0.heap[w.heap.size + 3]? = some (.cells #[.bool false] 4) := by rw [← hW0]; exact heap_alloc_at _ _ _ (by simp)
  clear hW0
  refine ⟨trivial, (callsIn_wide.2 (turned_any cs _ hCODES.out)).mono ?_⟩
  rintro e w1 ⟨rfl, hbt⟩
  have s0 := hb0.below hbt
  have s1 := (hbt.block _ (heap_lt hb1)).trans hb1
  have s2 := (hbt.block _ (heap_lt hb2)).trans hb2
  have s3 := (hbt.block _ (heap_lt hb3)).trans hb3
  have hbw := below_to hbW hbW.size hbt
  have hszt := hbt.size
  clear hb0 hb1 hb2 hb3 hbW hbt
  gi_wp2_with fail
  have hal : Below w1.heap.size w1 (w1.alloc (.cells #[.int .i64 cs.length, .int .u64 (cell (turnedN cs) 0), .int .u64 (cell (turnedN cs) 1), .int .u64 (cell (turnedN cs) 2), .int .u64 (cell (turnedN cs) 3), .int .u64 (cell (turnedN cs) 4), .int .u64 (cell (turnedN cs) 5)] 37)) := (Below.refl _ _).alloc (Nat.le_refl _) _
  have s4 : SpF (w1.alloc (.cells #[.int .i64 cs.length, .int .u64 (cell (turnedN cs) 0), .int .u64 (cell (turnedN cs) 1), .int .u64 (cell (turnedN cs) 2), .int .u64 (cell (turnedN cs) 3), .int .u64 (cell (turnedN cs) 4), .int .u64 (cell (turnedN cs) 5)] 37)) w1.heap.size cs.length (cell (turnedN cs)) := heap_alloc_new _ _
  replace s0 := s0.below hal
  replace s1 := (hal.block _ (heap_lt s1)).trans s1
  replace s2 := (hal.block _ (heap_lt s2)).trans s2
  replace s3 := (hal.block _ (heap_lt s3)).trans s3
  replace hbw := below_to hbw hbw.size hal
  have hsz2 : (w1.alloc (.cells #[.int .i64 cs.length, .int .u64 (cell (turnedN cs) 0), .int .u64 (cell (turnedN cs) 1), .int .u64 (cell (turnedN cs) 2), .int .u64 (cell (turnedN cs) 3), .int .u64 (cell (turnedN cs) 4), .int .u64 (cell (turnedN cs) 5)] 37)).heap.size = w1.heap.size + 1 := by simp
  generalize hW2 : World.alloc w1 _ = W2 at *
  clear hW2 hal
  generalize hB1 : w1.heap.size = B1 at *
  clear hB1
  have HSZ : Hid (w.heap.size + 4 ≤ B1) := Lib.hid (by omega)
  have c1 := cell_of s1 (j := 0) rfl
  have c2 := cell_of s2 (j := 0) rfl
  have p0 : (0 : Int) ≤ (p : Int) := by omega
  have p6 : (p : Int) < 6 := by omega
  have hdf : bits .andNot .u64 (s : Int) ((2 : Int) ^ p) = ((diff s (2 ^ p) : Nat) : Int) := by
    have := u64_andNot s (2 ^ p) (by omega) (by omega)
    rwa [pow_int] at this
  have S0 := Lib.hid s0
  have S1 := Lib.hid s1
  have S2 := Lib.hid s2
  have S3 := Lib.hid s3
  have S4 := Lib.hid s4
  have HBW := Lib.hid hbw
  clear s0 s1 s2 s3 s4 hbw
  refine region_then 4 rfl rfl rfl (by kernel_rfl) (by kernel_rfl) (by kernel_rfl) (by kernel_rfl) (by kernel_rfl) (by kernel_rfl) ?_
  dsimp only [List.dropLast]
  repeat (gi_big_quiet_step (fail))
  refine wpQuietIn_nil ?_
  intro _ hw'
  obtain ⟨nq, hw''⟩ := hw'
  subst hw''
  have hszd := size_drewN W2 nq
  rw [hsz2] at hszd
  have r0 := S0.out.drewN nq
  have r1 := (heap_drewN W2 nq _).trans S1.out
  have r2 := (heap_drewN W2 nq _).trans S2.out
  have r3 := (heap_drewN W2 nq _).trans S3.out
  have r4 := S4.out.drewN nq
  have rb := below_to HBW.out HBW.out.size (below_drewN W2 nq)
  generalize hW3 : W2.drewN nq = W3 at *
  clear hW3 c1 c2 S0 S1 S2 S3 S4 HBW hsz2
  go_simp
  refine ⟨trivial, (callsIn_wide.2 (points_any (diff s (2 ^ p)) _)).mono ?_⟩
  rintro e w2 ⟨rfl, rfl⟩
  have hal : Below W3.heap.size W3 (W3.alloc (.cells #[.int .u64 (diff s (2 ^ p) : Nat)] 34)) := (Below.refl _ _).alloc (Nat.le_refl _) _
  have hBs := heap_alloc_new W3 (.cells #[.int .u64 (diff s (2 ^ p) : Nat)] 34)
  replace r0 := r0.below hal
  replace r1 := (hal.block _ (heap_lt r1)).trans r1
  replace r2 := (hal.block _ (heap_lt r2)).trans r2
  replace r3 := (hal.block _ (heap_lt r3)).trans r3
  replace r4 := r4.below hal
  replace rb := below_to rb rb.size hal
  have hsz4 : (W3.alloc (.cells #[.int .u64 (diff s (2 ^ p) : Nat)] 34)).heap.size = B1 + 2 := by simp [hszd]
  rw [hszd] at hBs ⊢
  generalize hW4 : World.alloc W3 _ = W4 at *
  clear hW4 hal hszd
  gi_wp2_with fail
  have hsz := HSZ.out
  refine range_pts (gf := 33) (Bs := B1 + 1) (s := diff s (2 ^ p)) rfl (enters_of Tryd.func33 (by kernel_rfl) rfl)
    (points_given (diff s (2 ^ p)) (B1 + 1) hd64 19 (by omega) W4 (by omega)) hBs rfl
    (fun pre W => SpF W w.heap.size cs.length (cell cs) ∧ W.heap[w.heap.size + 1]? = some (.cells #[.int .u64 s] 34) ∧ W.heap[w.heap.size + 2]? = some (.cells #[.int .i64 p] 3) ∧ W.heap[w.heap.size + 3]? = some (.cells #[.bool false] 4) ∧ SpF W B1 cs.length (cell (turnedN cs)) ∧ Below w.heap.size w W ∧ ∀ q ∈ pre, looseAt cs s p q = false)
    (fun c pre W => c = .ret ∧ W.heap[w.heap.size + 3]? = some (.cells #[.bool true] 4) ∧ Below w.heap.size w W ∧ looseB cs s p = true) ?a1 ?hI ?hIx ?hIB (fun pre W h => hT.below h.2.2.2.2.2.1) ⟨r0, r1, r2, r3, r4, rb, by simp⟩ ?assign ?body ?done ?stop
  case assign =>
    intro l x W K hK
    gi_wp2
    exact hK
  case hI =>
    rintro s W W' row ⟨h1, h2, h3, h4, h5, h6, h7⟩ hg hr
    exact ⟨own_block hg hr (by omega) h1, own_block hg hr (by omega) h2, own_block hg hr (by omega) h3, own_block hg hr (by omega) h4, own_block hg hr (by omega) h5, h6.grown hg h6.size (fun k e => by have := (hr k e).1; omega), h7⟩
  case hIx =>
    rintro c s W W' row ⟨h1, h2, h4, h5⟩ hg hr
    exact ⟨h1, own_block hg hr (by omega) h2, h4.grown hg h4.size (fun k e => by have := (hr k e).1; omega), h5⟩
  case hIB =>
    rintro s W v ⟨h1, h2, h3, h4, h5, h6, h7⟩
    exact ⟨h1.other (by omega), set_other h2 (by omega), set_other h3 (by omega), set_other h4 (by omega), h5.other (by omega), h6.setCell (p := ⟨B1 + 1, 0, none⟩) (by simp; omega) _, h7⟩
  case body =>
    rintro l pre x W hl ⟨h1, h2, h3, h4, h5, h6, h7⟩ hpx
    obtain ⟨hxb, hx6⟩ := pre_bit hd64 hpx
    have q1 := h1.cell hx6
    have q2 := h1.cell hp
    have q3 := h5.cell hx6
    have q4 := h5.cell hp
    have c1 := cell_of h2 (j := 0) rfl
    have c2 := cell_of h3 (j := 0) rfl
    have c3 := cell_of h4 (j := 0) rfl
    have f3 := free_of h4 0
    have a1 := HC.out x
    have a2 := HC.out p
    have a3 := HCT.out x
    have a4 := HCT.out p
    have e1 := u64_and (cell cs p) s (by omega) (by omega)
    have e2 := u64_and (cell cs x) s (by omega) (by omega)
    have e3 := u64_and (cell (turnedN cs) p) s (by omega) (by omega)
    have e4 := u64_and (cell (turnedN cs) x) s (by omega) (by omega)
    have n1 : cell cs p &&& s < 64 := and_lt (n := 64) a2
    have n2 : cell (turnedN cs) p &&& s < 64 := and_lt (n := 64) a4
    have e5 : bits .andNot .u64 ((cell cs p &&& s : Nat) : Int) ((2 : Int) ^ p) = ((diff (cell cs p &&& s) (2 ^ p) : Nat) : Int) := by
      have := u64_andNot (cell cs p &&& s) (2 ^ p) (by omega) (by omega)
      rwa [pow_int] at this
    have e6 : bits .andNot .u64 ((cell (turnedN cs) p &&& s : Nat) : Int) ((2 : Int) ^ p) = ((diff (cell (turnedN cs) p &&& s) (2 ^ p) : Nat) : Int) := by
      have := u64_andNot (cell (turnedN cs) p &&& s) (2 ^ p) (by omega) (by omega)
      rwa [pow_int] at this
    have x0 : (0 : Int) ≤ (x : Int) := by omega
    have x1 : (x : Int) < 6 := by omega
    have hyes : looseAt cs s p x = true → looseB cs s p = true := fun h => List.any_eq_true.2 ⟨x, hpx.subset (by simp), h⟩
    have HY := Lib.hid hyes
    have H1 := Lib.hid h1
    have H2 := Lib.hid h2
    have H3 := Lib.hid h3
    have H4 := Lib.hid h4
    have H5 := Lib.hid h5
    have H6 := Lib.hid h6
    have H7 := Lib.hid h7
    have HLA := Lib.hid (looseAt_two cs s p x)
    clear h1 h2 h3 h4 h5 h6 h7 hpx hxb hyes
    by_cases t1 : diff (cell cs p &&& s) (2 ^ p) = cell cs x &&& s
    · have g1 := eqInt t1
      have HT1 : Hid (looseB cs s p = true) := Lib.hid (HY.out (by rw [HLA.out]; unfold loose1; rw [decide_eq_true t1]; rfl))
      clear t1
      gi_wp2_with fail
      refine region_quiet_round (by kernel_rfl) (by kernel_rfl) (by kernel_rfl) ?_
      repeat (gi_big_quiet_step (fail))
      refine wpQuietIn_nil ?_
      intro _ hw'
      obtain ⟨nq, hw''⟩ := hw'
      subst hw''
      gi_wp2_with fail
      exact ⟨(keeps_drewN _ W _).trans (keeps_set _ _ _ _ _), SameAt.setCell (heap_drewN _ _ _) (by omega) _, rfl, set_same ((heap_drewN _ _ _).trans H4.out), (below_to H6.out H6.out.size (below_drewN _ _)).setCell (p := ⟨w.heap.size + 1 + 1 + 1, 0, none⟩) (by simp <;> omega) _, HT1.out⟩
    · have g1 := neInt t1
      have HN1 : Hid (loose1 cs s p x = false) := Lib.hid (decide_eq_false t1)
      clear t1
      by_cases t2 : diff (cell (turnedN cs) p &&& s) (2 ^ p) = cell (turnedN cs) x &&& s
      · have g2 := eqInt t2
        have HT1 : Hid (looseB cs s p = true) := Lib.hid (HY.out (by rw [HLA.out, HN1.out]; unfold loose1; rw [decide_eq_true t2]; rfl))
        clear t2
        gi_wp2_with fail
        refine region_quiet_round (by kernel_rfl) (by kernel_rfl) (by kernel_rfl) ?_
        repeat (gi_big_quiet_step (fail))
        refine wpQuietIn_nil ?_
        intro _ hw'
        obtain ⟨nq, hw''⟩ := hw'
        subst hw''
        gi_wp2_with fail
        exact ⟨(keeps_drewN _ W _).trans (keeps_set _ _ _ _ _), SameAt.setCell (heap_drewN _ _ _) (by omega) _, rfl, set_same ((heap_drewN _ _ _).trans H4.out), (below_to H6.out H6.out.size (below_drewN _ _)).setCell (p := ⟨w.heap.size + 1 + 1 + 1, 0, none⟩) (by simp <;> omega) _, HT1.out⟩
      · have g2 := neInt t2
        have HT1 : Hid (looseAt cs s p x = false) := Lib.hid (by rw [HLA.out, HN1.out]; unfold loose1; rw [decide_eq_false t2]; rfl)
        clear t2
        gi_wp2_with fail
        refine region_quiet_round (by kernel_rfl) (by kernel_rfl) (by kernel_rfl) ?_
        repeat (gi_big_quiet_step (fail))
        refine wpQuietIn_nil ?_
        intro _ hw'
        obtain ⟨nq, hw''⟩ := hw'
        subst hw''
        gi_wp2_with fail
        refine ⟨keeps_drewN _ W _, heap_drewN _ _ _, H1.out.drewN _, (heap_drewN _ _ _).trans H2.out, (heap_drewN _ _ _).trans H3.out, (heap_drewN _ _ _).trans H4.out, H5.out.drewN _, below_to H6.out H6.out.size (below_drewN _ _), fun q hq => ?_⟩
        rcases List.mem_append.1 hq with hq | hq
        · exact H7.out q hq
        · rw [List.mem_singleton.1 hq]; exact HT1.out
  case done =>
    rintro D W hD ⟨h1, h2, h3, h4, h5, h6, h7⟩ hK
    have hno : looseB cs s p = false := by
      rcases hl : looseB cs s p with _ | _
      · rfl
      · obtain ⟨q, hq, h⟩ := List.any_eq_true.1 hl
        rw [h7 q hq] at h; cases h
    have c3 := cell_of h4 (j := 0) rfl
    have f3 := free_of h4 0
    have HNO := Lib.hid hno
    have H4 := Lib.hid h4
    have H6 := Lib.hid h6
    clear h1 h2 h3 h4 h5 h6 h7 hno
    gi_wp2_with fail
    have hK2 : (W.setCell ⟨w.heap.size + 3, 0, none⟩ (.bool false)).heap[D]? = some (.deferred (some [])) := set_other hK (by omega)
    refine ⟨by simp, .inl ⟨_, _, rfl, run_takeDeferred hK2, ?_⟩⟩
    refine ⟨_, results_cell1 (g := w.heap.size + 3) rfl rfl (by kernel_rfl) (putObj_other (set_same H4.out) (by omega)), by rw [HNO.out], ?_⟩
    exact (H6.out.setCell (p := ⟨w.heap.size + 3, 0, none⟩) (by simp) _).trans (belowK_b (w := w) (Nat.le_refl _) _ D _ _ (by omega) hK2 rfl rfl)
  case stop =>
    rintro D c pre W hD hpre ⟨rfl, h2, h4, h5⟩ hK
    gi_wp2_with fail
    refine ⟨by simp, .inl ⟨_, _, rfl, run_takeDeferred hK, ?_⟩⟩
    refine ⟨_, results_cell1 (g := w.heap.size + 3) rfl rfl (by kernel_rfl) (putObj_other h2 (by omega)), by rw [h5], ?_⟩
    exact h4.trans (belowK_b (w := w) (Nat.le_refl _) _ D _ _ (by omega) hK rfl rfl)
end Go.Proofs.YtppmgbjdbnedoalDoor

/- ply: core. -/
set_option linter.unusedVariables false
set_option linter.unusedSimpArgs false
namespace Go.Proofs.YtppmgbjdbnedoalDoor
open Go.RowKit Go.Shelf
attribute [local go_sem] Oper.semAt_some

theorem firstsTo_next (cs : List Nat) (k : Nat) : firstsTo cs (k + 1) = if amongB (cell cs) k (cell cs k) = true then firstsTo cs k else firstsTo cs k ||| 2 ^ k := by
  have h : ((List.range k).all fun j => decide (cell cs j ≠ cell cs k)) = !amongB (cell cs) k (cell cs k) := by
    unfold amongB
    rw [List.not_any_eq_all_not]
    congr 1
    funext j
    by_cases e : cell cs j = cell cs k <;> simp [e]
  show gather (fun p => (List.range p).all fun k => decide (cell cs k ≠ cell cs p)) k ||| (if ((List.range k).all fun j => decide (cell cs j ≠ cell cs k)) = true then 2 ^ k else 0) = _
  rw [h]
  unfold firstsTo
  cases amongB (cell cs) k (cell cs k) <;> simp

set_option maxRecDepth 100000 in
set_option maxHeartbeats 3200000 in
theorem core_any (cs : List Nat) (w : World) (hc : Codes cs) (hT : Tab w) :
    Calls Tryd.prog 36 #[spV cs] w fun e w' => e = .returned (.int .u64 (coreN cs : Nat)) ∧ Below w.heap.size w w' := by
  have hn6 := hc.2.1
  have hCODES := Lib.hid hc
  clear hc
  refine (callsIn_wide (n := 20)).1 ?_
  refine callsIn_of_wp_marks Tryd.func36 rfl trivial ?_ rfl
  simp only [Tryd.ntmps36, List.size_toArray, List.length_cons, List.length_nil, Nat.reduceAdd, Nat.reduceSub, Array.replicate_succ, Array.replicate_zero, List.push_toArray, List.append_toArray, List.nil_append, List.cons_append]
  gi_wp2_with fail
  generalize hW0 : World.alloc (World.alloc w _) _ = W0
  have hbW : Below w.heap.size w W0 := by rw [← hW0]; exact ((Below.refl _ _).alloc (Nat.le_refl _) _).alloc (by simp) _
  have hb0 : SpF W0 w.heap.size cs.length (cell cs) := by rw [← hW0]; exact alloc_old (heap_alloc_new _ _)
  have hb1 : W0.heap[w.heap.size + 1]? = some (.cells #[.int .u64 0] 34) := by rw [← hW0]; exact heap_alloc_at _ _ _ (by simp)
  clear hW0
  gi_loopw [9] (fun i wr => ∃ k : Nat, k ≤ cs.length ∧ i = .int .i64 k ∧ SpF wr w.heap.size cs.length (cell cs) ∧ wr.heap[w.heap.size + 1]? = some (.cells #[.int .u64 (firstsTo cs k : Nat)] 34) ∧ Below w.heap.size w wr) (fun i _ => cs.length - (intOf i).toNat)
  case atStart => exact ⟨0, by omega, rfl, hb0, hb1, hbW⟩
  case round =>
    obtain ⟨k, hk, rfl, s0, s1, hbr⟩ := hrel
    clear hb0 hb1 hbW
    by_cases hlt : k < cs.length
    · have q1 := s0.cell (p := k) (by omega)
      have c1 := cell_of s1 (j := 0) rfl
      have f1 := free_of s1 0
      have k0 : (0 : Int) ≤ (k : Int) := by omega
      have k00 : ¬ (k : Int) < 0 := by omega
      have k1 : (k : Int) < (cs.length : Int) := by omega
      have k6 : (k : Int) < 6 := by omega
      have k7 : (k : Int) ≤ 6 := by omega
      have hnx := firstsTo_next cs k
      have S0 := Lib.hid s0
      have S1 := Lib.hid s1
      have HB := Lib.hid hbr
      clear s0 s1 hbr
      rcases ha : amongB (cell cs) k (cell cs k) with _ | _
      · have hcall : ∀ w0, SpF w0 w.heap.size cs.length (cell cs) → Calls Tryd.prog 49 #[.slice (some ⟨w.heap.size, 1, none⟩) k 6, .int .u64 (cell cs k)] w0 fun e w' => e = .returned (.bool false) ∧ w0 = w' := fun w0 h => by
          have := containsSet_any (cell cs) k (cell cs k) w.heap.size 6 cs.length w0 (by omega) h
          rwa [ha] at this
        rw [ha, if_neg (by simp)] at hnx
        have HCALL := Lib.hid hcall
        have HNX := Lib.hid hnx
        have hft := lt64_of (n := k) (by omega) (firsts_lt cs k)
        have hsh := shl_num k (by omega)
        have hor : bits .or .u64 (firstsTo cs k : Int) ((2 : Int) ^ k) = ((firstsTo cs k ||| 2 ^ k : Nat) : Int) := by
          have := u64_or (firstsTo cs k) (2 ^ k) (by omega) (by have := pow_lt64 (p := k) (by omega); omega)
          rwa [pow_int] at this
        clear hcall ha hnx
        gi_wp2_with fail
        refine wpIn_wide.2 ?_
        go_quiet ((go_at_call 49; exact (HCALL.out _ (S0.out.drewN _)).mono (fun e w' h => ⟨h.1, _, h.2.symm⟩)))
        gi_wp2_with fail
        refine region_then 4 rfl rfl rfl (by kernel_rfl) (by kernel_rfl) (by kernel_rfl) (by kernel_rfl) (by kernel_rfl) (by kernel_rfl) ?_
        dsimp only [List.dropLast]
        repeat (gi_big_quiet_step (fail))
        refine wpQuietIn_nil ?_
        intro _ hw'
        obtain ⟨nq2, hw''⟩ := hw'
        subst hw''
        go_simp
        go_at_K
        gi_wp2_with fail
        go_roundw
        case rel =>
          refine ⟨k + 1, by omega, by go_num, (S0.out.drewN _).other (by omega), ?_, (below_to HB.out HB.out.size (below_drewN _ _)).setCell (p := ⟨w.heap.size + 1, 0, none⟩) (by simp) _⟩
          rw [HNX.out]; exact set_same ((heap_drewN _ _ _).trans S1.out)
        case measure => simp [intOf]; omega
      · have hcall : ∀ w0, SpF w0 w.heap.size cs.length (cell cs) → Calls Tryd.prog 49 #[.slice (some ⟨w.heap.size, 1, none⟩) k 6, .int .u64 (cell cs k)] w0 fun e w' => e = .returned (.bool true) ∧ w0 = w' := fun w0 h => by
          have := containsSet_any (cell cs) k (cell cs k) w.heap.size 6 cs.length w0 (by omega) h
          rwa [ha] at this
        rw [ha, if_pos rfl] at hnx
        have HCALL := Lib.hid hcall
        have HNX := Lib.hid hnx
        clear hcall ha hnx
        gi_wp2_with fail
        refine wpIn_wide.2 ?_
        go_quiet ((go_at_call 49; exact (HCALL.out _ (S0.out.drewN _)).mono (fun e w' h => ⟨h.1, _, h.2.symm⟩)))
        gi_wp2_with fail
        go_roundw
        case rel => exact ⟨k + 1, by omega, by go_num, S0.out.drewN _, by rw [HNX.out]; exact (heap_drewN _ _ _).trans S1.out, below_to HB.out HB.out.size (below_drewN _ _)⟩
        case measure => simp [intOf]; omega
    · have hkn : k = cs.length := by omega
      have hfn : firstsTo cs k = firstsN cs := by rw [hkn]; rfl
      rw [hfn] at s1
      have hfl : firstsN cs < 2 ^ cs.length := firsts_lt cs _
      clear hfn
      gi_wp2_with fail
      refine wpIn_loop (fun a' w' => ∃ (s : Nat) (u2 u4 u5 u6 u7 u8 u9 u10 u11 u12 u13 u14 u15 u16 u17 u18 u19 u20 u21 u22 u23 u24 u25 u26 u27 u28 u29 u30 u31 u32 u33 u34 u35 u36 u37 u38 u39 u40 : Value) (ds : List Deferred), s < 2 ^ cs.length ∧ coreOf cs s = coreN cs ∧ SpF w' w.heap.size cs.length (cell cs) ∧ w'.heap[w.heap.size + 1]? = some (.cells #[.int .u64 (s : Nat)] 34) ∧ Below w.heap.size w w' ∧ Marks w.heap.size w'.heap.size ds w' ∧ a' = { tmps := #[spV cs, .pointer (some ⟨w.heap.size, 0, none⟩), u2, .pointer (some ⟨w.heap.size + 1, 0, none⟩), u4, u5, u6, u7, u8, u9, u10, u11, u12, u13, u14, u15, u16, u17, u18, u19, u20, u21, u22, u23, u24, u25, u26, u27, u28, u29, u30, u31, u32, u33, u34, u35, u36, u37, u38, u39, u40], defers := ds }) (fun _ w' => match w'.cell? ⟨w.heap.size + 1, 0, none⟩ with | some (.int _ c) => c.toNat | _ => 0) ⟨firstsN cs, _, _, _, _, _, _, _, _, _, _, _, _, _, _, _, _, _, _, _, _, _, _, _, _, _, _, _, _, _, _, _, _, _, _, _, _, _, _, [], hfl, rfl, s0, s1, hbr, trivial, rfl⟩ ?_
      rintro a' W ⟨s, u2, u4, u5, u6, u7, u8, u9, u10, u11, u12, u13, u14, u15, u16, u17, u18, u19, u20, u21, u22, u23, u24, u25, u26, u27, u28, u29, u30, u31, u32, u33, u34, u35, u36, u37, u38, u39, u40, ds, hs, hco, z0, z1, hbz, hmk, rfl⟩
      have h64 := lt64_of hn6 hs
      have c1 := cell_of z1 (j := 0) rfl
      have hb2 : w.heap.size + 2 ≤ W.heap.size := by have := heap_lt z1; omega
      have hal : Below W.heap.size W (W.alloc (.cells #[.int .i64 (-1)] 3)) := (Below.refl _ _).alloc (Nat.le_refl _) _
      have y0 := heap_alloc_new W (.cells #[.int .i64 (-1)] 3)
      have z0' := z0.below hal
      have z1' := (hal.block _ (heap_lt z1)).trans z1
      have hbz' := below_to hbz hbz.size hal
      have hmk' := hmk.below hal
      have hszA : (W.alloc (.cells #[.int .i64 (-1)] 3)).heap.size = W.heap.size + 1 := by simp
      have c1' := cell_of z1' (j := 0) rfl
      have HCO := Lib.hid hco
      have HC0 := Lib.hid c1
      clear z0 z1 hbz hmk c1 hal hco s0 s1 hbr
      gi_wp2_with fail
      generalize hWA : World.alloc W _ = WA at *
      generalize hB : W.heap.size = B at *
      clear hWA hB
      refine ⟨trivial, (callsIn_wide.2 (points_any s _)).mono ?_⟩
      rintro e w1 ⟨rfl, rfl⟩
      have hal : Below WA.heap.size WA (WA.alloc (.cells #[.int .u64 (s : Nat)] 34)) := (Below.refl _ _).alloc (Nat.le_refl _) _
      have hBs := heap_alloc_new WA (.cells #[.int .u64 (s : Nat)] 34)
      have x0 := z0'.below hal
      have x1 := (hal.block _ (heap_lt z1')).trans z1'
      have x2 := (hal.block _ (heap_lt y0)).trans y0
      have xb := below_to hbz' hbz'.size hal
      have xm := hmk'.below hal
      have hszB : (WA.alloc (.cells #[.int .u64 (s : Nat)] 34)).heap.size = B + 2 := by simp [hszA]
      rw [hszA] at hBs ⊢
      generalize hWB : World.alloc WA _ = WB at *
      have HB2 := Lib.hid hb2
      clear hWB hal z0' z1' y0 hbz' hmk' hszA c1'
      gi_wp2_with fail
      have hb2 := HB2.out
      refine range_pts (gf := 33) (Bs := B + 1) (s := s) rfl (enters_of Tryd.func33 (by kernel_rfl) rfl)
        (points_given s (B + 1) h64 19 (by omega) WB (by omega)) hBs rfl
        (fun pre W => SpF W w.heap.size cs.length (cell cs) ∧ W.heap[w.heap.size + 1]? = some (.cells #[.int .u64 (s : Nat)] 34) ∧ W.heap[B]? = some (.cells #[.int .i64 (-1)] 3) ∧ Below w.heap.size w W ∧ Marks w.heap.size B ds W ∧ B + 2 ≤ W.heap.size ∧ ∀ q ∈ pre, looseB cs s q = false)
        (fun c pre W => c = .exit 4 ∧ SpF W w.heap.size cs.length (cell cs) ∧ W.heap[w.heap.size + 1]? = some (.cells #[.int .u64 (s : Nat)] 34) ∧ (∃ x : Nat, x < 6 ∧ W.heap[B]? = some (.cells #[.int .i64 x] 3) ∧ firstLoose cs s = some x) ∧ Below w.heap.size w W ∧ Marks w.heap.size B ds W) ?a1 ?hI ?hIx ?hIB (fun pre W h => hT.below h.2.2.2.1) ⟨x0, x1, x2, xb, xm, by omega, by simp⟩ ?assign ?body ?done ?stop
      case assign =>
        intro l x W K hK
        gi_wp2
        exact hK
      case hI =>
        rintro s W W' row ⟨h1, h2, h3, h4, h5, h7, h6⟩ hg hr
        exact ⟨own_block hg hr (by omega) h1, own_block hg hr (by omega) h2, own_block hg hr (by omega) h3, h4.grown hg h4.size (fun k e => by have := (hr k e).1; omega), h5.grown hg (fun k e => by have := (hr k e).1; omega), Nat.le_trans h7 hg.size, h6⟩
      case hIx =>
        rintro c s W W' row ⟨h0, h1, h2, ⟨x, hx, h3, h3'⟩, h4, h5⟩ hg hr
        exact ⟨h0, own_block hg hr (by omega) h1, own_block hg hr (by omega) h2, ⟨x, hx, own_block hg hr (by omega) h3, h3'⟩, h4.grown hg h4.size (fun k e => by have := (hr k e).1; omega), h5.grown hg (fun k e => by have := (hr k e).1; omega)⟩
      case hIB =>
        rintro s W v ⟨h1, h2, h3, h4, h5, h7, h6⟩
        exact ⟨h1.other (by omega), set_other h2 (by omega), set_other h3 (by omega), h4.setCell (p := ⟨B + 1, 0, none⟩) (by simp; omega) _, h5.setCell _ _ _, by simpa using h7, h6⟩
      case body =>
        rintro l pre x W hl ⟨h1, h2, h3, h4, h5, h7, h6⟩ hpx
        obtain ⟨hxb, hx6⟩ := pre_bit h64 hpx
        obtain ⟨d0, d1, d2, d3, d4, d5, d6⟩ := h1.cells
        have c2 := cell_of h2 (j := 0) rfl
        have c3 := cell_of h3 (j := 0) rfl
        have f3 := free_of h3 0
        have hTW := hT.below h4
        have HPX := Lib.hid hpx
        have H1 := Lib.hid h1
        have H2 := Lib.hid h2
        have H3 := Lib.hid h3
        have H4 := Lib.hid h4
        have H5 := Lib.hid h5
        have H6 := Lib.hid h6
        have HTW := Lib.hid hTW
        have HW : Hid (B + 2 ≤ W.heap.size) := Lib.hid h7
        clear h1 h2 h3 h4 h5 h6 hpx hxb hTW
        gi_wp2_with fail
        refine ⟨trivial, (callsIn_wide.2 (loose_any cs s x _ hCODES.out hs hx6 HTW.out)).mono ?_⟩
        rintro e w2 ⟨rfl, hb3⟩
        have r1 := H1.out.below hb3
        have r2 := (hb3.block _ (heap_lt H2.out)).trans H2.out
        have r3 := (hb3.block _ (heap_lt H3.out)).trans H3.out
        have r4 := below_to H4.out H4.out.size hb3
        have r5 := H5.out.below hb3
        have hBs2 : SameAt (B + 1) W w2 := hb3.block _ (by have := HW.out; omega)
        have hkf : KeepsFrom WB.heap.size W w2 := ⟨hb3.size, fun k o _ hk _ => (hb3.block k (heap_lt hk)).trans hk⟩
        rcases hl2 : looseB cs s x with _ | _
        · have HL := Lib.hid hl2
          clear hl2 d0 d1 d2 d3 d4 d5 d6 c2 c3 f3
          gi_wp2_with fail
          refine ⟨hkf, hBs2, r1, r2, r3, r4, r5, Nat.le_trans HW.out hb3.size, fun q hq => ?_⟩
          rcases List.mem_append.1 hq with hq | hq
          · exact H6.out q hq
          · rw [List.mem_singleton.1 hq]; exact HL.out
        · have hfl2 : firstLoose cs s = some x := by
            unfold firstLoose
            obtain ⟨rest, hrest⟩ := HPX.out
            rw [← hrest, List.append_assoc, List.find?_append, List.find?_eq_none.2 (fun q hq => by rw [H6.out q hq]; simp)]
            simp [hl2]
          have HFL := Lib.hid hfl2
          have R1 := Lib.hid r1
          have R2 := Lib.hid r2
          have R3 := Lib.hid r3
          have R4 := Lib.hid r4
          have R5 := Lib.hid r5
          have c3' := cell_of r3 (j := 0) rfl
          have f3' := free_of r3 0
          clear hl2 hfl2 d0 d1 d2 d3 d4 d5 d6 c2 c3 f3 r1 r2 r3 r4 r5
          gi_wp2_with fail
          exact ⟨hkf.trans (keeps_set _ _ _ _ _), SameAt.setCell hBs2 (by omega) _, rfl, R1.out.other (by omega), set_other R2.out (by omega), ⟨x, hx6, set_same R3.out, HFL.out⟩, R4.out.setCell (p := ⟨B, 0, none⟩) (by simp; omega) _, R5.out.setCell _ _ _⟩
      case done =>
        rintro D W hD ⟨h1, h2, h3, h4, h5, h7, h6⟩ hK
        have hnone : firstLoose cs s = none := List.find?_eq_none.2 (fun q hq => by rw [h6 q hq]; simp)
        have hfin : s = coreN cs := by rw [← HCO.out]; exact (core_none hnone).symm
        have c2 := cell_of h2 (j := 0) rfl
        have c3 := cell_of h3 (j := 0) rfl
        have hm2 := h5.add (D := D) (by omega) (by omega) hK
        have HF := Lib.hid hfin
        have H4 := Lib.hid h4
        have HM := Lib.hid hm2
        clear h1 h2 h3 h4 h5 h6 hnone hfin hm2
        gi_wp2_with fail
        refine leave_marks _ _ _ HM.out fun w' hs => ?_
        exact ⟨_, results_tmp rfl _ _ _, by rw [← HF.out]; rfl, H4.out.trans hs.below⟩
      case stop =>
        rintro D c pre W hD hpre ⟨rfl, h1, h2, ⟨x, hx6, h3, hfl2⟩, h4, h5⟩ hK
        have c2 := cell_of h2 (j := 0) rfl
        have c3 := cell_of h3 (j := 0) rfl
        have f2 := free_of h2 0
        have hm2 := h5.add (D := D) (by omega) (by omega) hK
        have hm3 : Marks w.heap.size W.heap.size ({ target := .collected D, args := #[] } :: ds) W := hm2.mono (by have := heap_lt hK; omega)
        have hsh := shl_num x hx6
        have hpw := pow_lt64 hx6
        have hdf : bits .andNot .u64 (s : Int) ((2 : Int) ^ x) = ((diff s (2 ^ x) : Nat) : Int) := by
          have := u64_andNot s (2 ^ x) (by omega) (by omega)
          rwa [pow_int] at this
        have hlt := diff_lt_self (firstLoose_bit h64 hfl2).1
        have x0' : (0 : Int) ≤ (x : Int) := by omega
        have x00 : ¬ (x : Int) < 0 := by omega
        have x6 : (x : Int) < 6 := by omega
        have HC2 : Hid (coreOf cs (diff s (2 ^ x)) = coreN cs) := Lib.hid (by rw [← core_some h64 hfl2]; exact HCO.out)
        have HLT := Lib.hid hlt
        have HDS : Hid (diff s (2 ^ x) < 2 ^ cs.length) := Lib.hid (diff_lt hs)
        have H1 := Lib.hid h1
        have H2 := Lib.hid h2
        have H4 := Lib.hid h4
        have HM := Lib.hid hm3
        clear h1 h2 h3 h4 h5 hfl2 hm2 hm3 hlt
        gi_wp2_with fail
        refine region_then 4 rfl rfl rfl (by kernel_rfl) (by kernel_rfl) (by kernel_rfl) (by kernel_rfl) (by kernel_rfl) (by kernel_rfl) ?_
        dsimp only [List.dropLast]
        repeat (gi_big_quiet_step (fail))
        refine wpQuietIn_nil ?_
        intro _ hw'
        obtain ⟨nq2, hw''⟩ := hw'
        subst hw''
        go_simp
        refine ⟨⟨diff s (2 ^ x), _, _, _, _, _, _, _, _, _, _, _, _, _, _, _, _, _, _, _, _, _, _, _, _, _, _, _, _, _, _, _, _, _, _, _, _, _, _, _, HDS.out, HC2.out, (H1.out.drewN _).other (by omega), set_same ((heap_drewN _ _ _).trans H2.out), (below_to H4.out H4.out.size (below_drewN _ _)).setCell (p := ⟨w.heap.size + 1, 0, none⟩) (by simp) _, (HM.out.below (below_drewN _ _)).setCell _ _ _ |>.mono (by simp [size_drewN]), rfl⟩, ?_⟩
        rw [cell_of (set_same ((heap_drewN _ _ _).trans H2.out)) (j := 0) rfl, HC0.out]
        have := HLT.out
        simp
        omega
end Go.Proofs.YtppmgbjdbnedoalDoor

/- ply: numbers, Core. -/
set_option linter.unusedVariables false
set_option linter.unusedSimpArgs false
namespace Go.Proofs.YtppmgbjdbnedoalDoor
open Go.RowKit Go.Shelf
attribute [local go_sem] Oper.semAt_some

theorem append_intKIn {F : Fence} {n : Nat} {ops : Array Oper} {rest : List Oper} {o : Oper} {a : Act} {w0 w : World} {Q : Exit → Act → World → Prop} (hgd : o.guard = none) (s x : Operand)
    (ho : o.op = .call { callee := .builtin .append, args := #[s, x], argTypes := #[22, 22] }) {v : Value} {xs : List Int} (hc : Col w0 w v xs) (hs : a.eval s = v)
    (y : Int) (hx : a.eval x = .slice (some ⟨w.heap.size, 0, none⟩) 1 1) (hlen : xs.length ≤ 1000000000)
    (h : ∀ v' w', Col w0 w' v' (xs ++ [y]) → v' ≠ .slice none 0 0 → KeepNI w w' → KeepsFrom w.heap.size w w' → wpListIn F n Tryd.prog ops Q rest (a.put o.dst v') w') : wpListIn F n Tryd.prog ops Q (o :: rest) a (w.alloc (.cells #[.int .i64 y] 3)) := by
  obtain ⟨i0, hi, hz0, hz1, hz2⟩ := info_parts infoInt
  refine wpListIn_append_own _ hgd s x 22 ho w0.heap.size 3 i0 (.int .i64 0) 1 8 Tryd.underlying22 hi hz0 hz1 hz2 rfl (by decide) v xs.length (xs.map (Value.int .i64)) hs (hc.own.alloc _) ⟨w.heap.size, 0, none⟩ 1 1 [.int .i64 y] hx rfl (cell_one_new _ _ _) (by simp [Value.oneCell']) (by simp only [maxLen]; omega) (by omega) (by have := hc.below.size; simp; omega) ?_
  intro v' w' hown' hgrow hnil
  have keep : ∀ (k : Nat) (o' : Obj), w.heap[k]? = some o' → (∀ cs fr, o' ≠ .cells cs 3 fr) → w'.heap[k]? = some o' := fun k o' hk hno => by
    have hk2 : (w.alloc (.cells #[.int .i64 y] 3)).heap[k]? = some o' := alloc_old hk
    refine (hgrow.block k (heap_lt hk2) (fun e => ?_)).trans hk2
    obtain ⟨cs, fr, hr⟩ := hc.notInt k e.symm
    rw [hk] at hr
    exact hno cs fr (Option.some.inj hr)
  refine h v' w' ⟨by simpa using hown', ?_⟩ (fun e => by simpa using (hnil.1 e).2) keep ⟨Nat.le_trans (by simp) hgrow.size, fun k o' _ hk ho' => keep k o' hk (fun cs fr e => by subst e; cases ho')⟩
  refine (hc.below.alloc hc.below.size _).grown hgrow (by have := hc.below.size; simp; omega) ?_
  intro k hk
  exact (World.ownsRow.lt (hc.own.alloc (.cells #[.int .i64 y] 3)) k hk.symm.symm).1
theorem ofNats_snoc (l : List Nat) (x : Nat) : ofNats (l ++ [x]) = ofNats l ++ [(x : Int)] := by simp [ofNats]
theorem Col.ownNotInt {w0 w : World} {v : Value} {xs : List Int} (h : Col w0 w v xs) : v = .slice none 0 0 ∨ ∃ a l c, v = .slice a l c := by
  obtain ⟨_, h1 | ⟨g, cap, cur, h1, _⟩⟩ := h.own
  · exact .inl h1.1
  · exact .inr ⟨_, _, _, h1⟩
theorem Col.isSlice {w0 w : World} {v : Value} {xs : List Int} (h : Col w0 w v xs) : ∃ a l c, v = Value.slice a l c := by
  rcases h.ownNotInt with rfl | h
  · exact ⟨_, _, _, rfl⟩
  · exact h
theorem KeepNI.slices {w w' : World} {b : Nat} {c : Array Value} (h : KeepNI w w') (hs : w.heap[b]? = some (.cells c 22)) : w'.heap[b]? = some (.cells c 22) := h b _ hs (fun cs fr e => by
  injection e with _ h2 _
  exact absurd h2 (by decide))
/-- a cell of another type is written -/
theorem Col.setCell {w0 w : World} {v : Value} {xs : List Int} (h : Col w0 w v xs) {b : Nat} {t : TypeId} {cs : Array Value} (hb : w0.heap.size ≤ b) (hc : w.heap[b]? = some (.cells cs t)) (ht : t ≠ 3) (u : Value) : Col w0 (w.setCell ⟨b, 0, none⟩ u) v xs := by
  refine ⟨?_, h.below.setCell (p := ⟨b, 0, none⟩) hb u⟩
  obtain ⟨h1, h2 | ⟨g, cap, cur, h3, h4, h5, h6⟩⟩ := h.own
  · exact ⟨h1, .inl h2⟩
  · refine ⟨h1, .inr ⟨g, cap, cur, h3, h4, ?_, h6⟩⟩
    refine (heap_setCell_other _ _ _ _ (fun e => ?_)).trans h5
    have e' : g = b := e
    rw [← e', h5] at hc
    injection hc with hc
    injection hc with _ hc _
    exact ht hc.symm

theorem Col.putObj {w0 w : World} {v : Value} {xs : List Int} (h : Col w0 w v xs) {D : Nat} {ds : Option (List Deferred)} (hD : w0.heap.size ≤ D) (hK : w.heap[D]? = some (.deferred ds)) (o' : Obj) : Col w0 (w.putObj D o') v xs := by
  refine ⟨?_, h.below.trans (belowK_b (w := w0) (Nat.le_refl _) w D _ o' hD hK rfl rfl)⟩
  obtain ⟨h1, h2 | ⟨g, cap, cur, h3, h4, h5, h6⟩⟩ := h.own
  · exact ⟨h1, .inl h2⟩
  · refine ⟨h1, .inr ⟨g, cap, cur, h3, h4, putObj_other h5 (fun e => ?_), h6⟩⟩
    subst e
    rw [h5] at hK; cases hK
set_option maxRecDepth 100000 in
set_option maxHeartbeats 1600000 in
theorem appendSeq_any (wP w : World) (s : Nat) (hs : s < 64) (hb : Below wP.heap.size wP w) (hB : w.heap[wP.heap.size]? = some (.cells #[.int .u64 s] 34)) (hT : Tab wP) :
    Calls Tryd.prog 57 #[.slice none 0 0, .func (.func 33) #[] #[.pointer (some ⟨wP.heap.size, 0, none⟩)]] w fun e w' => ∃ v', e = .returned v' ∧ Col wP w' v' (ofNats (bitsOf s)) := by
  refine (callsIn_wide (n := 20)).1 ?_
  refine callsIn_of_wp_marks Tryd.func57 rfl trivial ?_ rfl
  simp only [Tryd.ntmps57, List.size_toArray, List.length_cons, List.length_nil, Nat.reduceAdd, Nat.reduceSub, Array.replicate_succ, Array.replicate_zero, List.push_toArray, List.append_toArray, List.nil_append, List.cons_append]
  have hlt := heap_lt hB
  gi_wp2_with fail
  generalize hW0 : World.alloc w _ = W0
  have hal : Below w.heap.size w W0 := by rw [← hW0]; exact (Below.refl _ _).alloc (Nat.le_refl _) _
  have hsz : W0.heap.size = w.heap.size + 1 := by rw [← hW0]; simp
  have b0 : W0.heap[w.heap.size]? = some (.cells #[.slice none 0 0] 22) := by rw [← hW0]; exact heap_alloc_new _ _
  have b1 := (hal.block _ hlt).trans hB
  have bb := below_to hb hb.size hal
  clear hW0
  generalize hB0 : w.heap.size = B at *
  clear hB0 hal hB
  refine range_pts (gf := 33) (Bs := wP.heap.size) (s := s) rfl (enters_of Tryd.func33 (by kernel_rfl) rfl)
    (points_given s wP.heap.size hs 19 (by omega) W0 (by omega)) b1 rfl
    (fun pre W => ∃ v, W.heap[B]? = some (.cells #[v] 22) ∧ Col wP W v (ofNats pre) ∧ (∃ c, W.heap[wP.heap.size]? = some (.cells c 34)))
    (fun c pre W => False) ?a1 ?hI (fun c s W W' row h _ _ => h) ?hIB (fun pre W h => by obtain ⟨v, _, h2, _⟩ := h; exact hT.below h2.below) ⟨_, b0, ⟨World.ownsRow_nil _ _ _ _, bb⟩, _, b1⟩ ?assign ?body ?done ?stop
  case assign =>
    intro l x W K hK
    gi_wp2
    exact hK
  case hI =>
    rintro s W W' row ⟨v, h1, h2, c, h3⟩ hg hr
    refine ⟨v, own_cells hg hr h1, ⟨?_, h2.below.grown hg h2.below.size (fun k e => by have := (hr k e).1; omega)⟩, c, own_cells hg hr h3⟩
    obtain ⟨g1, g2 | ⟨g, cap, cur, g3, g4, g5, g6⟩⟩ := h2.own
    · exact ⟨g1, .inl g2⟩
    · exact ⟨g1, .inr ⟨g, cap, cur, g3, g4, own_cells hg hr g5, g6⟩⟩
  case hIB =>
    rintro s W v ⟨v0, h1, h2, c, h3⟩
    exact ⟨v0, set_other h1 (by omega), h2.setCell (Nat.le_refl _) h3 (by decide) _, c.setIfInBounds 0 v, heap_setCell_same _ _ 0 _ _ v h3⟩
  case body =>
    rintro l pre x W hl ⟨v, h1, h2, c, h3⟩ hpx
    have c1 := cell_of h1 (j := 0) rfl
    have HL : Hid ((ofNats pre).length ≤ 1000000000) := Lib.hid (by
      rw [ofNats_len]
      have h4 := hpx.length_le
      have h5 : (bitsOf s).length ≤ 6 := by unfold bitsOf; exact Nat.le_trans (List.length_filter_le _ _) (by simp)
      simp at h4; omega)
    have H1 := Lib.hid h1
    have H2 := Lib.hid h2
    have H3 := Lib.hid h3
    have hf := free_of h1 0
    have hbl : B < W.heap.size := heap_lt h1
    obtain ⟨va, vl, vc, rfl⟩ := h2.isSlice
    clear h1 h2 h3 hpx
    gi_wp2_with (gi_at_builtin; refine append_intKIn rfl _ _ rfl H2.out rfl _ rfl HL.out ?_; intro v' w' hcol' hne hkeep hkf; obtain ⟨va2, vl2, vc2, rfl⟩ := hcol'.isSlice; have H4 := Lib.hid (hkeep.slices H1.out); have c1' := cell_of H4.out (j := 0) rfl; have f1' := free_of H4.out 0)
    obtain ⟨c, h3⟩ := (⟨c, H3.out⟩ : ∃ c, W.heap[wP.heap.size]? = some (.cells c 34))
    have h3' := hkeep.set h3
    refine ⟨(KeepsFrom.trans ⟨hkf.size, fun k o hk h ho => ?_⟩ (keeps_set _ _ _ _ _)), SameAt.setCell (h3'.trans h3.symm) (by omega) _, _, set_same H4.out, ?_, _, set_other h3' (by omega)⟩
    · exact hkeep k o h (fun cs fr e => by subst e; cases ho)
    · rw [ofNats_snoc]
      exact hcol'.setCell (by omega) H4.out (by decide) _
  case done =>
    rintro D W hD ⟨v, h1, h2, h3⟩ hK
    have c1 := cell_of h1 (j := 0) rfl
    obtain ⟨va, vl, vc, rfl⟩ := h2.isSlice
    have H2 := Lib.hid h2
    clear h1 h2 h3
    gi_wp2_with fail
    refine ⟨by simp, .inl ⟨_, _, rfl, run_takeDeferred hK, ?_⟩⟩
    refine ⟨_, results_tmp rfl _ _ _, _, rfl, ?_⟩
    exact H2.out.putObj (by omega) hK _
  case stop =>
    rintro D c pre W hD hpre h
    exact h.elim
theorem collect_any (wP w : World) (s : Nat) (hs : s < 64) (hb : Below wP.heap.size wP w) (hB : w.heap[wP.heap.size]? = some (.cells #[.int .u64 s] 34)) (hT : Tab wP) :
    Calls Tryd.prog 51 #[.func (.func 33) #[] #[.pointer (some ⟨wP.heap.size, 0, none⟩)]] w fun e w' => ∃ v', e = .returned v' ∧ Col wP w' v' (ofNats (bitsOf s)) := by
  go_enter Tryd.func51, Tryd.ntmps51
  go_wp2_with fail
  refine (appendSeq_any wP w s hs hb hB hT).mono ?_
  rintro e w' ⟨v', rfl, hcol⟩
  obtain ⟨va, vl, vc, rfl⟩ := hcol.isSlice
  go_wp2_with fail
  go_ret
  exact ⟨_, rfl, hcol⟩
theorem numbers_any (s : Nat) (w : World) (hs : s < 64) (hT : Tab w) :
    Calls Tryd.prog 37 #[.int .u64 s] w fun e w' => ∃ v', e = .returned v' ∧ Col w w' v' (ofNats (bitsOf s)) := by
  go_enter Tryd.func37, Tryd.ntmps37
  go_wp2_with fail
  refine (points_any s _).mono ?_
  rintro e w1 ⟨rfl, rfl⟩
  go_wp2_with fail
  refine (collect_any w _ s hs ((Below.refl _ _).alloc (Nat.le_refl _) _) (heap_alloc_new _ _) hT).mono ?_
  rintro e w' ⟨v', rfl, hcol⟩
  obtain ⟨va, vl, vc, rfl⟩ := hcol.isSlice
  go_wp2_with fail
  go_ret
  exact ⟨_, rfl, hcol⟩
theorem coreN_lt {cs : List Nat} (hc : Codes cs) : coreN cs < 64 :=
  (core_ind (P := fun _ => True) (fun _ _ _ _ _ _ => trivial) _ _ (Nat.le_refl _) (lt64_of hc.2.1 (firsts_lt cs _)) trivial).2.2
set_option maxRecDepth 100000 in
set_option maxHeartbeats 800000 in
theorem Core_yes (v : Value) (cs : List Nat) (w : World) (hr : Reads w v (ofNats cs)) (hc : Codes cs) (hsp : spaceB cs = true) (hT : Tab w) :
    Calls Tryd.prog 22 #[v] w fun e w' => ∃ v', e = .returned (.tuple #[v', .int .i64 0]) ∧ Col w w' v' (ofNats (bitsOf (coreN cs))) := by
  have hr0 := hr
  obtain ⟨a, cap, rfl, _, _, _⟩ := hr.open
  clear hr
  go_enter Tryd.func22, Tryd.ntmps22
  go_wp2_with fail
  refine (newSpace_yes _ cs _ hr0 hc hsp hT).mono ?_
  rintro e w1 ⟨rfl, hb1⟩
  obtain ⟨hs1, hb2⟩ := lay_sp hb1 cs.length (cell cs)
  have hT2 := hT.below hb2
  go_wp2_with fail
  generalize hW : World.alloc w1 _ = W at *
  clear hW
  obtain ⟨d0, d1, d2, d3, d4, d5, d6⟩ := hs1.cells
  clear hs1
  go_wp2_with fail
  refine (core_any cs _ hc hT2).mono ?_
  rintro e w2 ⟨rfl, hb3⟩
  have hb4 := below_to hb2 hb2.size hb3
  have hT3 := hT2.below hb3
  clear d0 d1 d2 d3 d4 d5 d6
  go_wp2_with fail
  refine (numbers_any (coreN cs) _ (coreN_lt hc) hT3).mono ?_
  rintro e w3 ⟨v', rfl, hcol⟩
  obtain ⟨va, vl, vc, rfl⟩ := hcol.isSlice
  go_wp2_with fail
  go_ret2
  exact ⟨_, rfl, hcol.lower hb4⟩
set_option maxRecDepth 100000 in
theorem Core_no (v : Value) (l : List Int) (w : World) (hr : Reads w v l) (h : spL l = false) (hT : Tab w) :
    Calls Tryd.prog 22 #[v] w fun e w' => e = .returned (.tuple #[.slice none 0 0, .int .i64 2]) ∧ Below w.heap.size w w' := by
  have hr0 := hr
  obtain ⟨a, cap, rfl, _, _, _⟩ := hr.open
  clear hr
  go_enter Tryd.func22, Tryd.ntmps22
  go_wp2_with fail
  refine (newSpace_no _ l _ hr0 h hT).mono ?_
  rintro e w1 ⟨n, c, rfl, hb1⟩
  obtain ⟨hs1, hb2⟩ := lay_sp hb1 n c
  go_wp2_with fail
  go_ret2
  exact ⟨rfl, hb2⟩
end Go.Proofs.YtppmgbjdbnedoalDoor

/- The helpers mod and prime of the statements. -/
set_option linter.unusedVariables false
set_option linter.unusedSimpArgs false
namespace Go.Proofs.YtppmgbjdbnedoalDoor
open Go.RowKit

def modN (x n : Int) : Int := (x % 18446744073709551616) % n
theorem modN_rng (x : Int) {n : Int} (hn : 1 ≤ n) : 0 ≤ modN x n ∧ modN x n < n := by
  unfold modN
  exact ⟨Int.emod_nonneg _ (by omega), Int.emod_lt_of_pos _ (by omega)⟩

end Go.Proofs.YtppmgbjdbnedoalDoor

/- A set made from any int. -/
set_option linter.unusedVariables false
set_option linter.unusedSimpArgs false
namespace Go.Proofs.YtppmgbjdbnedoalDoor
open Go.RowKit

/-- the cells of a slice that is read, by its value -/
theorem Reads.at {w : World} {a : Option Addr} {n cap : Nat} {cs : List Nat} (h : Reads w (.slice a n cap) (ofNats cs)) : n = cs.length ∧ ∀ k, k < cs.length → ∃ b off, a = some ⟨b, off, none⟩ ∧ b < w.heap.size ∧ w.cell? ⟨b, off + k, none⟩ = some (.int .i64 (cell cs k)) := by
  obtain ⟨a', cap', he, _, _, hc⟩ := h.open
  have hl := ofNats_len cs
  injection he with h1 h2 h3
  subst h1
  refine ⟨by omega, fun k hk => ?_⟩
  have := hc k (by omega)
  rwa [gi_nats] at this
end Go.Proofs.YtppmgbjdbnedoalDoor

/- ply: Pieces. -/
set_option linter.unusedVariables false
set_option linter.unusedSimpArgs false
namespace Go.Proofs.YtppmgbjdbnedoalDoor
open Go.RowKit Go.Shelf
attribute [local go_sem] Oper.semAt_some

theorem neg_low' : (List.range 64).all (fun l => decide (bits .and .u64 (l : Int) (IntKind.u64.wrap (-(l : Int))) = ((lowN l : Nat) : Int))) = true := by decide +kernel
theorem neg_low {l : Nat} (h : l < 64) : bits .and .u64 (l : Int) (IntKind.u64.wrap (-(l : Int))) = ((lowN l : Nat) : Int) := by
  have := List.all_eq_true.1 neg_low' l (List.mem_range.2 h)
  simpa using this
theorem Col.grownW {w0 W W' : World} {v : Value} {xs : List Int} {row : Option Nat} {B : Nat} (h : Col w0 W v xs) (hg : W.grownBy W' row) (hr : ∀ r, row = some r → B ≤ r ∧ ∃ o : Obj, W.heap[r]? = some o ∧ o.isCells = false) (hB : w0.heap.size ≤ B) : Col w0 W' v xs := by
  refine ⟨h.own.kept hg ?_, h.below.grown hg h.below.size fun k e => by have := (hr k e).1; omega⟩
  rcases hv : v.ownBlock with _ | g
  · exact .inl rfl
  · refine .inr fun e => ?_
    obtain ⟨_, o, ho, hc⟩ := hr g e.symm
    obtain ⟨cs, fr, h2⟩ := h.notInt g hv
    rw [h2] at ho
    cases ho
    cases hc

theorem Col.setOther {w0 W : World} {v : Value} {xs : List Int} {k : Nat} (h : Col w0 W v xs) (hne : ∀ g, v.ownBlock = some g → g ≠ k) (hB : w0.heap.size ≤ k) (u : Value) : Col w0 (W.setCell ⟨k, 0, none⟩ u) v xs := by
  refine ⟨?_, h.below.setCell (p := ⟨k, 0, none⟩) hB u⟩
  obtain ⟨h1, h2 | ⟨g, cap, cur, h3, h4, h5, h6⟩⟩ := h.own
  · exact ⟨h1, .inl h2⟩
  · refine ⟨h1, .inr ⟨g, cap, cur, h3, h4, (heap_setCell_other _ _ _ _ ?_).trans h5, h6⟩⟩
    exact hne g (by rw [h3]; rfl)
theorem Col.shut {w0 W W' : World} {v : Value} {xs : List Int} (h : Col w0 W v xs) (hs : MShut w0.heap.size W W') : Col w0 W' v xs := by
  refine ⟨?_, h.below.trans hs.below⟩
  obtain ⟨h1, h2 | ⟨g, cap, cur, h3, h4, h5, h6⟩⟩ := h.own
  · exact ⟨h1, .inl h2⟩
  · exact ⟨h1, .inr ⟨g, cap, cur, h3, h4, hs.keep g _ _ _ h5, h6⟩⟩
theorem moreL_sub {cs : List Nat} {s : Nat} (ps : List Nat) {b : Nat} (h : subB b s = true) : subB (moreL cs s ps b) s = true := sub_iff.2 fun i hi => by
  rcases (moreL_bit cs s i ps b).1 hi with h1 | ⟨p, _, h1⟩
  · exact sub_iff.1 h i h1
  · exact sub_iff.1 (near_sub cs s p) i h1
set_option maxRecDepth 100000 in
set_option maxHeartbeats 12800000 in
theorem Pieces_yes (v : Value) (cs : List Nat) (s : Nat) (w : World) (hr : Reads w v (ofNats cs)) (hc : Codes cs) (hsp : spaceB cs = true) (hs : s < 2 ^ cs.length) (hT : Tab w) :
    Calls Tryd.prog 6 #[v, .int .i64 s] w fun e w' => ∃ v', e = .returned (.tuple #[v', .int .i64 0]) ∧ Col w w' v' (ofNats (piecesOf cs s s)) := by
  have hr0 := hr
  obtain ⟨a, cap, rfl, _, _, _⟩ := hr.open
  have hl6 := hc.2.1
  have HC := Lib.hid hc
  have HC64 := Lib.hid (cell_64 hc)
  have HT64 := Lib.hid (cell_64 (turned_codes hc))
  clear hr
  refine (callsIn_wide (n := 20)).1 ?_
  refine callsIn_of_wp_marks Tryd.func6 rfl trivial ?_ rfl
  simp only [Tryd.ntmps6, List.size_toArray, List.length_cons, List.length_nil, Nat.reduceAdd, Nat.reduceSub, Array.replicate_succ, Array.replicate_zero, List.push_toArray, List.append_toArray, List.nil_append, List.cons_append]
  gi_wp2_with fail
  refine ⟨trivial, (callsIn_wide.2 (both_yes _ cs s _ hr0 hc hsp hs hT)).mono ?_⟩
  rintro e w1 ⟨rfl, hb1⟩
  have hs64 : s < 64 := Nat.lt_of_lt_of_le hs (Nat.pow_le_pow_right (n := 2) (by omega) hl6)
  have x6 : SpF ((w1.alloc (.cells #[.int .i64 cs.length, .int .u64 (cell cs 0), .int .u64 (cell cs 1), .int .u64 (cell cs 2), .int .u64 (cell cs 3), .int .u64 (cell cs 4), .int .u64 (cell cs 5)] 37)).alloc (.cells #[.int .u64 s] 34)) w1.heap.size cs.length (cell cs) := alloc_old (heap_alloc_new _ _)
  have x7 : ((w1.alloc (.cells #[.int .i64 cs.length, .int .u64 (cell cs 0), .int .u64 (cell cs 1), .int .u64 (cell cs 2), .int .u64 (cell cs 3), .int .u64 (cell cs 4), .int .u64 (cell cs 5)] 37)).alloc (.cells #[.int .u64 s] 34)).heap[w1.heap.size + 1]? = some (.cells #[.int .u64 s] 34) := heap_alloc_at _ _ _ (by simp)
  have hbw : Below w.heap.size w ((w1.alloc (.cells #[.int .i64 cs.length, .int .u64 (cell cs 0), .int .u64 (cell cs 1), .int .u64 (cell cs 2), .int .u64 (cell cs 3), .int .u64 (cell cs 4), .int .u64 (cell cs 5)] 37)).alloc (.cells #[.int .u64 s] 34)) := (hb1.alloc hb1.size _).alloc (by have := hb1.size; simp; omega) _
  have hB6 := hb1.size
  gi_wp2_with fail
  generalize hW : World.alloc (World.alloc w1 _) _ = W at *
  generalize hBB : w1.heap.size = B6 at *
  clear hW hBB
  refine ⟨trivial, (callsIn_wide.2 (turned_any cs _ hc)).mono ?_⟩
  rintro e w2 ⟨rfl, hb2⟩
  have y6 := x6.below hb2
  have y7 := (hb2.block _ (heap_lt x7)).trans x7
  have hbw2 := hbw.trans (hb2.mono hbw.size)
  have HTL := Lib.hid (turned_len cs)
  have hB9 : B6 + 2 ≤ w2.heap.size := by have := heap_lt y7; omega
  rw [show (spV (turnedN cs)) = spF cs.length (cell (turnedN cs)) by unfold spV; rw [HTL.out]]
  have hal : Below w2.heap.size w2 (w2.alloc (.cells #[.int .i64 cs.length, .int .u64 (cell (turnedN cs) 0), .int .u64 (cell (turnedN cs) 1), .int .u64 (cell (turnedN cs) 2), .int .u64 (cell (turnedN cs) 3), .int .u64 (cell (turnedN cs) 4), .int .u64 (cell (turnedN cs) 5)] 37)) := (Below.refl _ _).alloc (Nat.le_refl _) _
  have z9 : SpF (w2.alloc (.cells #[.int .i64 cs.length, .int .u64 (cell (turnedN cs) 0), .int .u64 (cell (turnedN cs) 1), .int .u64 (cell (turnedN cs) 2), .int .u64 (cell (turnedN cs) 3), .int .u64 (cell (turnedN cs) 4), .int .u64 (cell (turnedN cs) 5)] 37)) w2.heap.size cs.length (cell (turnedN cs)) := heap_alloc_new _ _
  have z6 := y6.below hal
  have z7 := (hal.block _ (heap_lt y7)).trans y7
  have hbw3 := hbw2.trans (hal.mono hbw2.size)
  have c7 := cell_of z7 (j := 0) rfl
  clear y6 y7 x6 x7 hbw hbw2 hb2 hb1 hr0
  gi_wp2_with fail
  generalize hW2 : World.alloc w2 _ = W2 at *
  generalize hBB : w2.heap.size = B9 at *
  clear hW2 hBB hal
  refine wpIn_loop (fun a' w' => ∃ (left : Nat) (out : Value) (pre : List Nat) (u0 u1 u2 u3 u4 u5 u8 u12 u13 u14 u15 u16 u17 u18 u19 u20 u21 u22 u23 u24 u25 u26 u27 u28 u29 u30 u31 u32 u33 u34 u35 u36 u37 u38 u39 u40 u41 u42 u43 u44 u45 u46 u47 u48 u49 u50 u51 u52 u53 u54 u55 u56 u57 u58 u59 u60 u61 u62 : Value) (ds : List Deferred), (LeftI cs s left ∧ piecesOf cs s s = pre ++ piecesOf cs s left ∧ pre.length ≤ 64) ∧ (SpF w' B6 cs.length (cell cs) ∧ w'.heap[B6 + 1]? = some (.cells #[.int .u64 (s : Nat)] 34) ∧ SpF w' B9 cs.length (cell (turnedN cs)) ∧ Col w w' out (ofNats pre) ∧ Marks w.heap.size w'.heap.size ds w') ∧ a' = { tmps := List.toArray (u0 :: u1 :: u2 :: u3 :: u4 :: u5 :: (.pointer (some ⟨B6, 0, none⟩)) :: (.pointer (some ⟨B6 + 1, 0, none⟩)) :: u8 :: (.pointer (some ⟨B9, 0, none⟩)) :: out :: (.int .u64 left) :: u12 :: u13 :: u14 :: u15 :: u16 :: u17 :: u18 :: u19 :: u20 :: u21 :: u22 :: u23 :: u24 :: u25 :: u26 :: u27 :: u28 :: u29 :: u30 :: u31 :: u32 :: u33 :: u34 :: u35 :: u36 :: u37 :: u38 :: u39 :: u40 :: u41 :: u42 :: u43 :: u44 :: u45 :: u46 :: u47 :: u48 :: u49 :: u50 :: u51 :: u52 :: u53 :: u54 :: u55 :: u56 :: u57 :: u58 :: u59 :: u60 :: u61 :: u62 :: []), defers := ds }) (fun (a' : Act) (_ : World) => (intOf (a'.tmps.getD 11 undef)).toNat) ⟨s, _, [], _, _, _, _, _, _, _, _, _, _, _, _, _, _, _, _, _, _, _, _, _, _, _, _, _, _, _, _, _, _, _, _, _, _, _, _, _, _, _, _, _, _, _, _, _, _, _, _, _, _, _, _, _, _, _, _, _, _, [], ⟨LeftI.start, rfl, by simp⟩, ⟨z6, z7, z9, ⟨World.ownsRow_nil _ _ _ _, hbw3⟩, trivial⟩, rfl⟩ ?_
  clear z6 z7 z9 c7 hbw3
  rintro a' W ⟨left, out, pre, u0, u1, u2, u3, u4, u5, u8, u12, u13, u14, u15, u16, u17, u18, u19, u20, u21, u22, u23, u24, u25, u26, u27, u28, u29, u30, u31, u32, u33, u34, u35, u36, u37, u38, u39, u40, u41, u42, u43, u44, u45, u46, u47, u48, u49, u50, u51, u52, u53, u54, u55, u56, u57, u58, u59, u60, u61, u62, ds, ⟨hli, hpo, hpl⟩, ⟨z6, z7, z9, hco, hmk⟩, rfl⟩
  have hl64 : left < 64 := by have := sub_le hli.sub; omega
  by_cases h0 : left = 0
  · subst h0
    have HPO : Hid (piecesOf cs s s = pre) := Lib.hid (by rw [hpo, piecesOf_zero, List.append_nil])
    have HCO := Lib.hid hco
    have HMK := Lib.hid hmk
    obtain ⟨oa, ol, oc, rfl⟩ := hco.isSlice
    clear hpo z6 z7 z9 hco hmk
    gi_wp2_with fail
    refine leave_marks _ _ _ HMK.out fun w' hsh => ?_
    refine ⟨_, results_tmp2 rfl _ _ _, _, rfl, ?_⟩
    rw [HPO.out]
    exact HCO.out.shut hsh
  · obtain ⟨p, hp⟩ := hli.piece hc hs h0
    have hlow := low_sub hl64 h0
    have hneg := neg_low hl64
    have h0i : (0 : Int) < (left : Int) := by omega
    obtain ⟨c, hcp⟩ : ∃ c, pieceN cs s (lowN left) = c := ⟨_, rfl⟩
    rw [hcp] at hp
    have HP := Lib.hid hp
    have HCP := Lib.hid hcp
    have HLI := Lib.hid hli
    have HPO := Lib.hid hpo
    have hlws : subB (lowN left) s = true := sub_trans hlow.1 hli.sub
    have hll : lowN left < 64 := by have := sub_le hlow.1; omega
    generalize hLW : lowN left = low at *
    clear hli hpo hp
    gi_wp2_with fail
    refine wpIn_loop (fun a' w' => ∃ (pc : Nat) (u0 u1 u2 u3 u4 u5 u8 u13 u14 u15 u16 u17 u18 u19 u20 u21 u22 u23 u24 u25 u26 u27 u28 u29 u30 u31 u32 u33 u34 u35 u36 u37 u38 u39 u40 u41 u42 u43 u44 u45 u46 u47 u48 u49 u50 u51 u52 u53 u54 u55 u56 u57 u58 u59 u60 u61 u62 : Value) (ds : List Deferred), (subB pc s = true ∧ pieceN cs s pc = c) ∧ (SpF w' B6 cs.length (cell cs) ∧ w'.heap[B6 + 1]? = some (.cells #[.int .u64 (s : Nat)] 34) ∧ SpF w' B9 cs.length (cell (turnedN cs)) ∧ Col w w' out (ofNats pre) ∧ Marks w.heap.size w'.heap.size ds w') ∧ a' = { tmps := List.toArray (u0 :: u1 :: u2 :: u3 :: u4 :: u5 :: (.pointer (some ⟨B6, 0, none⟩)) :: (.pointer (some ⟨B6 + 1, 0, none⟩)) :: u8 :: (.pointer (some ⟨B9, 0, none⟩)) :: out :: (.int .u64 left) :: (.int .u64 pc) :: u13 :: u14 :: u15 :: u16 :: u17 :: u18 :: u19 :: u20 :: u21 :: u22 :: u23 :: u24 :: u25 :: u26 :: u27 :: u28 :: u29 :: u30 :: u31 :: u32 :: u33 :: u34 :: u35 :: u36 :: u37 :: u38 :: u39 :: u40 :: u41 :: u42 :: u43 :: u44 :: u45 :: u46 :: u47 :: u48 :: u49 :: u50 :: u51 :: u52 :: u53 :: u54 :: u55 :: u56 :: u57 :: u58 :: u59 :: u60 :: u61 :: u62 :: []), defers := ds }) (fun (a' : Act) (_ : World) => 64 - (intOf (a'.tmps.getD 12 undef)).toNat) ⟨low, _, _, _, _, _, _, _, _, _, _, _, _, _, _, _, _, _, _, _, _, _, _, _, _, _, _, _, _, _, _, _, _, _, _, _, _, _, _, _, _, _, _, _, _, _, _, _, _, _, _, _, _, _, _, _, _, _, ds, ⟨hlws, hcp⟩, ⟨z6, z7, z9, hco, hmk⟩, rfl⟩ ?_
    clear z6 z7 z9 hco hmk hcp
    rintro a' W ⟨pc, u0, u1, u2, u3, u4, u5, u8, u13, u14, u15, u16, u17, u18, u19, u20, u21, u22, u23, u24, u25, u26, u27, u28, u29, u30, u31, u32, u33, u34, u35, u36, u37, u38, u39, u40, u41, u42, u43, u44, u45, u46, u47, u48, u49, u50, u51, u52, u53, u54, u55, u56, u57, u58, u59, u60, u61, u62, ds, ⟨hps, hpc⟩, ⟨z6, z7, z9, hco, hmk⟩, rfl⟩
    have hpc64 : pc < 64 := by have := sub_le hps; omega
    have hlt9 := z9.lt
    have hog : ∀ g, out.ownBlock = some g → g < W.heap.size := fun g hg => (World.ownsRow.lt hco.own g hg).2
    have hal : Below W.heap.size W (W.alloc (.cells #[.int .u64 pc] 34)) := (Below.refl _ _).alloc (Nat.le_refl _) _
    have y13 := heap_alloc_new W (.cells #[.int .u64 pc] 34)
    have y6 := z6.below hal
    have y7 := (hal.block _ (heap_lt z7)).trans z7
    have y9 := z9.below hal
    have yco := hco.step hal
    have ymk := hmk.below hal
    have hszA : (W.alloc (.cells #[.int .u64 pc] 34)).heap.size = W.heap.size + 1 := by simp
    have HPS := Lib.hid hps
    have HPC := Lib.hid hpc
    have HOG := Lib.hid hog
    clear z6 z7 z9 hco hmk hal hps hpc hog
    gi_wp2_with fail
    generalize hWA : World.alloc W _ = WA at *
    generalize hB : W.heap.size = B at *
    clear hWA hB
    refine ⟨trivial, (callsIn_wide.2 (points_any pc _)).mono ?_⟩
    rintro e w1 ⟨rfl, rfl⟩
    have hal : Below WA.heap.size WA (WA.alloc (.cells #[.int .u64 pc] 34)) := (Below.refl _ _).alloc (Nat.le_refl _) _
    have hBs := heap_alloc_new WA (.cells #[.int .u64 pc] 34)
    have x6 := y6.below hal
    have x7 := (hal.block _ (heap_lt y7)).trans y7
    have x9 := y9.below hal
    have x13 := (hal.block _ (heap_lt y13)).trans y13
    have xco := yco.step hal
    have xmk := ymk.below hal
    have hszB : (WA.alloc (.cells #[.int .u64 pc] 34)).heap.size = B + 2 := by simp [hszA]
    rw [hszA] at hBs ⊢
    generalize hWB : World.alloc WA _ = WB at *
    clear hWB hal y6 y7 y9 y13 yco ymk hszA
    gi_wp2_with fail
    refine range_pts (gf := 33) (Bs := B + 1) (s := pc) rfl (enters_of Tryd.func33 (by kernel_rfl) rfl)
      (points_given pc (B + 1) hpc64 19 (by omega) WB (by omega)) hBs rfl
      (fun pre2 V => SpF V B6 cs.length (cell cs) ∧ V.heap[B6 + 1]? = some (.cells #[.int .u64 (s : Nat)] 34) ∧ SpF V B9 cs.length (cell (turnedN cs)) ∧ V.heap[B]? = some (.cells #[.int .u64 (moreL cs s pre2 pc : Nat)] 34) ∧ Col w V out (ofNats pre) ∧ Marks w.heap.size B ds V ∧ B + 2 ≤ V.heap.size)
      (fun c pre2 V => False) ?a1 ?hI (fun c s W W' row h _ _ => h) ?hIB (fun pre2 V h => hT.below h.2.2.2.2.1.below) ⟨x6, x7, x9, x13, xco, xmk, by omega⟩ ?assign ?body ?done ?stop
    case assign =>
      intro l x W K hK
      gi_wp2
      exact hK
    case hI =>
      rintro s' V V' row ⟨h1, h2, h3, h4, h5, h6, h7⟩ hg hr
      exact ⟨own_block hg hr (by omega) h1, own_block hg hr (by omega) h2, own_block hg hr (by omega) h3, own_block hg hr (by omega) h4, h5.grownW hg hr (by omega), h6.grown hg (fun k e => by have := (hr k e).1; omega), Nat.le_trans h7 hg.size⟩
    case hIB =>
      rintro s' V v ⟨h1, h2, h3, h4, h5, h6, h7⟩
      exact ⟨h1.other (by omega), set_other h2 (by omega), h3.other (by omega), set_other h4 (by omega), h5.setOther (fun g hg => by have := HOG.out g hg; omega) (by omega) v, h6.setCell _ _ _, by simpa using h7⟩
    case body =>
      rintro l pre2 x V hl ⟨h1, h2, h3, h4, h5, h6, h7⟩ hpx
      obtain ⟨hxb, hx6⟩ := pre_bit hpc64 hpx
      have q1 := h1.cell hx6
      have q2 := cell_of h2 (j := 0) rfl
      have q3 := h3.cell hx6
      have q4 := cell_of h4 (j := 0) rfl
      have f4 := free_of h4 0
      have a1 := HC64.out x
      have a2 := HT64.out x
      have hml : moreL cs s pre2 pc < 64 := by have := sub_le (moreL_sub (cs := cs) pre2 HPS.out); omega
      have hor : cell cs x ||| cell (turnedN cs) x < 2 ^ 6 := or_lt a1 a2
      have hnl : nearN cs s x < 64 := by have := sub_le (near_sub cs s x); omega
      have e1 := u64_or (cell cs x) (cell (turnedN cs) x) (by omega) (by omega)
      have e2 : bits .and .u64 ((cell cs x ||| cell (turnedN cs) x : Nat) : Int) (s : Int) = ((nearN cs s x : Nat) : Int) := u64_and _ s (by omega) (by omega)
      have e3 := u64_or (moreL cs s pre2 pc) (nearN cs s x) (by omega) (by omega)
      have x0 : (0 : Int) ≤ (x : Int) := by omega
      have x1 : (x : Int) < 6 := by omega
      have HSN : Hid (moreL cs s (pre2 ++ [x]) pc = moreL cs s pre2 pc ||| nearN cs s x) := Lib.hid (moreL_snoc cs s pre2 x pc)
      have H1 := Lib.hid h1
      have H2 := Lib.hid h2
      have H3 := Lib.hid h3
      have H4 := Lib.hid h4
      have H5 := Lib.hid h5
      have H6 := Lib.hid h6
      have H7 : Hid (B + 2 ≤ V.heap.size) := Lib.hid h7
      clear h1 h2 h3 h4 h5 h6 h7 hpx hxb
      gi_wp2_with fail
      refine region_then 13 rfl rfl rfl (by kernel_rfl) (by kernel_rfl) (by kernel_rfl) (by kernel_rfl) (by kernel_rfl) (by kernel_rfl) ?_
      dsimp only [List.dropLast]
      repeat (gi_big_quiet_step (fail))
      refine wpQuietIn_nil ?_
      intro _ hw'
      obtain ⟨nq, hw''⟩ := hw'
      subst hw''
      go_simp
      refine ⟨(keeps_drewN _ V _).trans (keeps_set _ _ _ _ _), SameAt.setCell (heap_drewN _ _ _) (by omega) _, (H1.out.drewN _).other (by omega), set_other ((heap_drewN _ _ _).trans H2.out) (by omega), (H3.out.drewN _).other (by omega), ?_, ?_, ?_, ?_⟩
      · rw [HSN.out]; exact set_same ((heap_drewN _ _ _).trans H4.out)
      · exact (H5.out.step (below_drewN _ _)).setOther (fun g hg => by have := HOG.out g hg; omega) (by omega) _
      · exact (H6.out.below (below_drewN _ _)).setCell _ _ _
      · have := H7.out; simpa [size_drewN] using this
    case done =>
      rintro D V hD ⟨h1, h2, h3, h4, h5, h6, h7⟩ hK
      have q4 := cell_of h4 (j := 0) rfl
      have hm2 := h6.add (D := D) (by omega) (by omega) hK
      have hm3 : Marks w.heap.size V.heap.size ({ target := .collected D, args := #[] } :: ds) V := hm2.mono (by have := heap_lt hK; omega)
      have hmo : moreL cs s (bitsOf pc) pc = moreN cs s pc := rfl
      rw [hmo] at h4 q4
      have hms := more_sub (cs := cs) hpc64 HPS.out
      have hmge := sub_le (more_ge (cs := cs) (s := s) hpc64)
      have hm64 : moreN cs s pc < 64 := by have := sub_le hms; omega
      have HMS := Lib.hid hms
      have HMN : Hid (pieceN cs s (moreN cs s pc) = c) := Lib.hid (by rw [piece_next hs64 HPS.out]; exact HPC.out)
      have H1 := Lib.hid h1
      have H2 := Lib.hid h2
      have H3 := Lib.hid h3
      have H5 := Lib.hid h5
      have HM := Lib.hid hm3
      by_cases heq : moreN cs s pc = pc
      · have HPCC : Hid (pc = c) := Lib.hid (by rw [← HPC.out]; exact (piece_fix heq).symm)
        rw [heq] at q4
        obtain ⟨hln, hll2⟩ := HLI.out.next HC.out hs HP.out
        have hdf := u64_andNot left c (by omega) (by have := HP.out.sub; have := sub_le this; omega)
        have hwc := wrapI c (by have := HP.out.sub; have := sub_le this; omega)
        have HPN : Hid (piecesOf cs s s = (pre ++ [c]) ++ piecesOf cs s (diff left c)) := Lib.hid (by rw [HPO.out, piecesOf_next HC.out hs HLI.out HP.out]; simp)
        have HLN := Lib.hid hln
        have HLL2 := Lib.hid hll2
        have HPL2 : Hid ((pre ++ [c]).length ≤ 64) := Lib.hid (by
          have h1 := congrArg List.length HPN.out
          have h2 := piecesOf_len HC.out hs s s LeftI.start (Nat.le_refl _)
          simp only [List.length_append] at h1 ⊢
          omega)
        have HLEN : Hid ((ofNats pre).length ≤ 1000000000) := Lib.hid (by rw [ofNats_len]; omega)
        obtain ⟨oa, ol, oc, rfl⟩ := h5.isSlice
        have hpcc := HPCC.out
        subst hpcc
        clear h1 h2 h3 h4 h5 h6 hm2 hm3 hln hll2 hK hmo heq
        gi_wp2_with (gi_at_builtin; refine append_intKIn rfl _ _ rfl H5.out rfl _ rfl HLEN.out ?_; intro v' w' hcol' hne hkeep hkf)
        refine ⟨⟨diff left pc, _, pre ++ [pc], ⟨HLN.out, HPN.out, HPL2.out⟩, ⟨hkeep.sp H1.out, hkeep.set H2.out, hkeep.sp H3.out, by rw [ofNats_snoc]; exact hcol', (HM.out.keep fun k _ _ hk => hkeep k _ hk (fun cs fr e => by cases e)).mono hkf.size⟩, rfl, rfl⟩, ?_⟩
        have := HLL2.out
        simp [intOf]
        omega
      · have hne : ((moreN cs s pc : Int) == (pc : Int)) = false := by rw [beq_eq_false_iff_ne]; omega
        have hne2 : ¬ (moreN cs s pc : Int) = (pc : Int) := by omega
        clear h1 h2 h3 h4 h5 h6 hm2 hm3 hK hmo
        gi_wp2_with fail
        refine ⟨⟨moreN cs s pc, _, _, _, _, _, _, _, _, _, _, _, _, _, _, _, _, _, _, _, _, _, _, _, _, _, _, _, _, _, _, _, _, _, _, _, _, _, _, _, _, _, _, _, _, _, _, _, _, _, _, _, _, _, _, _, _, _, _, ⟨HMS.out, HMN.out⟩, ⟨H1.out, H2.out, H3.out, H5.out, HM.out⟩, rfl⟩, ?_⟩
        simp [intOf]
        omega
    case stop =>
      rintro D c pre2 V hD hpre h
      exact h.elim
end Go.Proofs.YtppmgbjdbnedoalDoor

/- Maps that a call makes, by the list of what was put into them. -/
set_option linter.unusedVariables false
set_option linter.unusedSimpArgs false
namespace Go.Proofs.YtppmgbjdbnedoalDoor
open Go.RowKit

/-- where a key stands in a list of keys, with what the entry holds -/
def findSpec {α : Type} [DecidableEq α] (a : α) : List α → List MapEntry → Nat → Option (Nat × Value)
  | k :: ks, e :: es, i => if a = k then some (i, e.val) else findSpec a ks es (i + 1)
  | _, _, _ => none
theorem findSpec_none {α : Type} [DecidableEq α] {a : α} : ∀ {ks : List α} {es : List MapEntry} {i : Nat}, a ∉ ks → findSpec a ks es i = none
  | [], _, _, _ => rfl
  | _ :: _, [], _, _ => rfl
  | k :: ks, e :: es, i, h => by
    simp only [List.mem_cons, not_or] at h
    rw [findSpec, if_neg h.1]; exact findSpec_none h.2
theorem findSpec_some {α : Type} [DecidableEq α] {a : α} : ∀ {ks : List α} {es : List MapEntry} {i : Nat}, a ∈ ks → es.length = ks.length → ∃ j, findSpec a ks es i = some (i + j, (es.getD j default).val) ∧ ks[j]? = some a
  | [], _, _, h, _ => by simp at h
  | k :: ks, [], _, _, hl => by simp at hl
  | k :: ks, e :: es, i, h, hl => by
    by_cases hk : a = k
    · subst hk; exact ⟨0, by simp [findSpec], rfl⟩
    · have h' : a ∈ ks := by simpa [hk] using h
      obtain ⟨j, h1, h2⟩ := findSpec_some (i := i + 1) h' (by simpa using hl)
      exact ⟨j + 1, by rw [findSpec, if_neg hk, h1]; simp [Nat.add_assoc, Nat.add_comm 1 j], by simpa using h2⟩

/-- how the keys of a map are told -/
structure KeyOK (kt : TypeId) {α : Type} [DecidableEq α] (ek : α → Value) : Prop where
  check : ∀ a em w, (Instr.checkKey em 10000 kt (ek a)).run Tryd.prog w = .ok () w
  find : ∀ a (es : List MapEntry) (ks : List α) w, es.map (·.key) = ks.map ek → (Instr.findKey kt (ek a) es).run Tryd.prog w = .ok (findSpec a ks es 0) w

/-- block b is a map that holds just these keys, with these elements -/
def MapIs {α : Type} (ek : α → Value) (w : World) (b : Nat) (kvs : List (α × Value)) : Prop :=
  ∃ es clock, w.heap[b]? = some (.map es clock) ∧ es.toList.map (·.key) = kvs.map (fun p => ek p.1) ∧ es.toList.map (·.val) = kvs.map (·.2)

theorem MapIs.made {α : Type} (ek : α → Value) (w : World) : MapIs ek (w.alloc (.map #[] 0)) w.heap.size [] := ⟨#[], 0, heap_alloc_new _ _, rfl, rfl⟩
theorem MapIs.of_block {α : Type} {ek : α → Value} {w w' : World} {b : Nat} {kvs : List (α × Value)} (h : MapIs ek w b kvs) (hb : w'.heap[b]? = w.heap[b]?) : MapIs ek w' b kvs := by
  obtain ⟨es, clock, h1, h2⟩ := h
  exact ⟨es, clock, hb.trans h1, h2⟩
theorem MapIs.lt {α : Type} {ek : α → Value} {w : World} {b : Nat} {kvs : List (α × Value)} (h : MapIs ek w b kvs) : b < w.heap.size := by
  obtain ⟨es, clock, h1, h2⟩ := h
  exact (Array.getElem?_eq_some_iff.1 h1).1

section
variable {α : Type} [DecidableEq α] {ek : α → Value} {w : World} {b : Nat} {kvs : List (α × Value)} {t kt et : TypeId}

theorem run_lookup_no (K : KeyOK kt ek) (ht : Tryd.prog.underlying t = some (.map kt et)) {z : Value} (hz : (zeroValue et).run Tryd.prog w = .ok z w) (h : MapIs ek w b kvs) {a : α} (ha : a ∉ kvs.map (·.1)) (ok : Bool) :
    (Instr.lookup t (.map (some b)) (ek a) ok).run Tryd.prog w = .ok (if ok then .tuple #[z, .bool false] else z) w := by
  obtain ⟨es, clock, h1, h2, h3⟩ := h
  have hf := K.find a es.toList (kvs.map (·.1)) w (by rw [h2, List.map_map]; rfl)
  rw [findSpec_none ha] at hf
  simp only [Instr.lookup, getObj, Sem.run_bind, run_underlying ht, Result.andThen_ok, Sem.run, h1, Sem.run_pure, K.check, hf, hz]

theorem find_yes (K : KeyOK kt ek) {es : Array MapEntry} (h2 : es.toList.map (·.key) = kvs.map (fun p => ek p.1)) (h3 : es.toList.map (·.val) = kvs.map (·.2)) {a : α} {v : Value} (hn : (kvs.map (·.1)).Nodup) (ha : (a, v) ∈ kvs) :
    ∃ j, (Instr.findKey kt (ek a) es.toList).run Tryd.prog w = .ok (some (j, v)) w := by
  have hf := K.find a es.toList (kvs.map (·.1)) w (by rw [h2, List.map_map]; rfl)
  have hl : es.toList.length = kvs.length := by have := congrArg List.length h3; simpa using this
  obtain ⟨j, h4, h5⟩ := findSpec_some (i := 0) (es := es.toList) (List.mem_map_of_mem (f := (·.1)) ha) (by simpa using hl)
  suffices hv : (es.toList.getD j default).val = v by rw [h4, hv] at hf; exact ⟨_, hf⟩
  obtain ⟨p, hp, hpa⟩ : ∃ p, kvs[j]? = some p ∧ p.1 = a := by simpa using h5
  obtain ⟨hj, hp'⟩ := List.getElem?_eq_some_iff.1 hp
  obtain ⟨i, hi, hi'⟩ := List.getElem_of_mem ha
  have hij : i = j := by
    refine (List.getElem_inj (xs := kvs.map (·.1)) (h₀ := by simpa using hi) (h₁ := by simpa using hj) hn).1 ?_
    simp [hi', hp', hpa]
  subst hij
  have hpv : p.2 = v := by rw [hi'] at hp'; rw [← hp']
  have : (es.toList.map (·.val))[i]? = some v := by rw [h3]; simp [hp, hpv]
  have hil : i < es.toList.length := by omega
  rw [List.getElem?_map, List.getElem?_eq_getElem hil] at this
  simp only [Option.map_some, Option.some.injEq] at this
  rw [List.getD_eq_getElem?_getD, List.getElem?_eq_getElem hil, Option.getD_some, this]

theorem run_lookup_yes (K : KeyOK kt ek) (ht : Tryd.prog.underlying t = some (.map kt et)) (h : MapIs ek w b kvs) {a : α} {v : Value} (hn : (kvs.map (·.1)).Nodup) (ha : (a, v) ∈ kvs) (ok : Bool) :
    (Instr.lookup t (.map (some b)) (ek a) ok).run Tryd.prog w = .ok (if ok then .tuple #[v, .bool true] else v) w := by
  obtain ⟨es, clock, h1, h2, h3⟩ := h
  obtain ⟨j, hf⟩ := find_yes (w := w) K h2 h3 hn ha
  simp only [Instr.lookup, getObj, Sem.run_bind, run_underlying ht, Result.andThen_ok, Sem.run, h1, Sem.run_pure, K.check, hf]

theorem run_mapUpdate_new (K : KeyOK kt ek) (ht : Tryd.prog.underlying t = some (.map kt et)) (h : MapIs ek w b kvs) {a : α} (ha : a ∉ kvs.map (·.1)) (v : Value) :
    ∃ w', (Instr.mapUpdate t (.map (some b)) (ek a) v).run Tryd.prog w = .ok () w' ∧ MapIs ek w' b (kvs ++ [(a, v)]) ∧ w.grownBy w' (some b) := by
  obtain ⟨es, clock, h1, h2, h3⟩ := h
  have hf := K.find a es.toList (kvs.map (·.1)) w (by rw [h2, List.map_map]; rfl)
  rw [findSpec_none ha] at hf
  have hb := (Array.getElem?_eq_some_iff.1 h1).1
  refine ⟨{ w with heap := w.heap.setIfInBounds b (.map (es.push { key := ek a, val := v, born := clock }) (clock + 1)) }, ?_, ⟨es.push { key := ek a, val := v, born := clock }, clock + 1, ?_, ?_, ?_⟩, ⟨rfl, rfl, rfl, by simp, fun k hk hne => ?_⟩⟩
  · simp only [Instr.mapUpdate, getObj, setObj, Sem.run_bind, run_underlying ht, Result.andThen_ok, Sem.run, h1, Sem.run_pure, K.check, hf]
  · simp [hb]
  · simp [h2]
  · simp [h3]
  · have : ¬ b = k := fun e => hne (by rw [e])
    simp [Array.getElem?_setIfInBounds, this]
end

/-! ### at the operation, for the walk -/
section
variable {α : Type} [DecidableEq α] {ek : α → Value} {w : World} {b : Nat} {kvs : List (α × Value)} {t kt et : TypeId} {ops : Array Oper} {rest : List Oper} {o : Oper} {a : Act} {Q : Exit → Act → World → Prop}

theorem wpList_op {v : Value} (hg : o.guard = none) {s : Sem Value} (he : execOp a.eval o = (do pure (.value (← s)))) {w' : World} (hs : s.run Tryd.prog w = .ok v w') (h : wpList Tryd.prog ops Q rest (a.put o.dst v) w') : wpList Tryd.prog ops Q (o :: rest) a w := by
  refine wpList_plain hg fun K' hK' => ?_
  unfold Oper.wp
  rw [he]
  simp only [Sem.run_bind, hs, Result.andThen_ok, Sem.run_pure]
  exact hK' _ _ h
theorem wpList_opu (hg : o.guard = none) {s : Sem Unit} (he : execOp a.eval o = (do s; pure .skip)) {w' : World} (hs : s.run Tryd.prog w = .ok () w') (h : wpList Tryd.prog ops Q rest (a.put o.dst undef) w') : wpList Tryd.prog ops Q (o :: rest) a w := by
  refine wpList_plain hg fun K' hK' => ?_
  unfold Oper.wp
  rw [he]
  simp only [Sem.run_bind, hs, Result.andThen_ok, Sem.run_pure]
  exact hK' _ _ h

theorem map_lookup_no (hg : o.guard = none) (m x : Operand) (ok : Bool) (hop : o.op = .lookup t m x ok) (K : KeyOK kt ek) (ht : Tryd.prog.underlying t = some (.map kt et)) {z : Value} (hz : (zeroValue et).run Tryd.prog w = .ok z w)
    (hm : a.eval m = .map (some b)) (h : MapIs ek w b kvs) (k : α) (hx : a.eval x = ek k) (hk : k ∉ kvs.map (·.1)) (hK : wpList Tryd.prog ops Q rest (a.put o.dst (if ok then .tuple #[z, .bool false] else z)) w) : wpList Tryd.prog ops Q (o :: rest) a w :=
  wpList_op hg (by simp [execOp, hop, hm, hx]) (run_lookup_no K ht hz h hk ok) hK
theorem map_lookup_yes (hg : o.guard = none) (m x : Operand) (ok : Bool) (hop : o.op = .lookup t m x ok) (K : KeyOK kt ek) (ht : Tryd.prog.underlying t = some (.map kt et))
    (hm : a.eval m = .map (some b)) (h : MapIs ek w b kvs) (k : α) (v : Value) (hx : a.eval x = ek k) (hn : (kvs.map (·.1)).Nodup) (hk : (k, v) ∈ kvs) (hK : wpList Tryd.prog ops Q rest (a.put o.dst (if ok then .tuple #[v, .bool true] else v)) w) : wpList Tryd.prog ops Q (o :: rest) a w :=
  wpList_op hg (by simp [execOp, hop, hm, hx]) (run_lookup_yes K ht h hn hk ok) hK
theorem map_update_new (hg : o.guard = none) (m x y : Operand) (hop : o.op = .mapUpdate t m x y) (K : KeyOK kt ek) (ht : Tryd.prog.underlying t = some (.map kt et))
    (hm : a.eval m = .map (some b)) (h : MapIs ek w b kvs) (k : α) (v : Value) (hx : a.eval x = ek k) (hy : a.eval y = v) (hk : k ∉ kvs.map (·.1))
    (hK : ∀ w', MapIs ek w' b (kvs ++ [(k, v)]) → w.grownBy w' (some b) → wpList Tryd.prog ops Q rest (a.put o.dst undef) w') : wpList Tryd.prog ops Q (o :: rest) a w := by
  obtain ⟨w', h1, h2, h3⟩ := run_mapUpdate_new K ht h hk v
  exact wpList_opu hg (by simp [execOp, hop, hm, hx, hy]) h1 (hK w' h2 h3)

variable {F : Fence} {nF : Nat}
theorem wpListIn_op {v : Value} (hg : o.guard = none) (hd : ∀ c, o.op ≠ .defer c) {s : Sem Value} (ha : o.about Tryd.prog w a.eval = none) (he : execOp a.eval o = (do pure (.value (← s)))) {w' : World} (hs : s.run Tryd.prog w = .ok v w') (h : wpListIn F nF Tryd.prog ops Q rest (a.put o.dst v) w') : wpListIn F nF Tryd.prog ops Q (o :: rest) a w := by
  refine wpListIn_plain hg fun K' hK' => ?_
  unfold Oper.wpIn
  refine ⟨by simp [ha], ?_⟩
  rw [Oper.semAt_plain F _ _ hd, he]
  simp only [Sem.run_bind, hs, Result.andThen_ok, Sem.run_pure]
  exact hK' _ _ h
theorem wpListIn_opu (hg : o.guard = none) (hd : ∀ c, o.op ≠ .defer c) {s : Sem Unit} (ha : o.about Tryd.prog w a.eval = none) (he : execOp a.eval o = (do s; pure .skip)) {w' : World} (hs : s.run Tryd.prog w = .ok () w') (h : wpListIn F nF Tryd.prog ops Q rest (a.put o.dst undef) w') : wpListIn F nF Tryd.prog ops Q (o :: rest) a w := by
  refine wpListIn_plain hg fun K' hK' => ?_
  unfold Oper.wpIn
  refine ⟨by simp [ha], ?_⟩
  rw [Oper.semAt_plain F _ _ hd, he]
  simp only [Sem.run_bind, hs, Result.andThen_ok, Sem.run_pure]
  exact hK' _ _ h

theorem map_lookup_no_in (hg : o.guard = none) (m x : Operand) (ok : Bool) (hop : o.op = .lookup t m x ok) (K : KeyOK kt ek) (ht : Tryd.prog.underlying t = some (.map kt et)) {z : Value} (hz : (zeroValue et).run Tryd.prog w = .ok z w)
    (hm : a.eval m = .map (some b)) (h : MapIs ek w b kvs) (k : α) (hx : a.eval x = ek k) (hk : k ∉ kvs.map (·.1)) (hK : wpListIn F nF Tryd.prog ops Q rest (a.put o.dst (if ok then .tuple #[z, .bool false] else z)) w) : wpListIn F nF Tryd.prog ops Q (o :: rest) a w :=
  wpListIn_op hg (by rw [hop]; intro c h; cases h) (by simp [Oper.about, hop]) (by simp [execOp, hop, hm, hx]) (run_lookup_no K ht hz h hk ok) hK
theorem map_lookup_yes_in (hg : o.guard = none) (m x : Operand) (ok : Bool) (hop : o.op = .lookup t m x ok) (K : KeyOK kt ek) (ht : Tryd.prog.underlying t = some (.map kt et))
    (hm : a.eval m = .map (some b)) (h : MapIs ek w b kvs) (k : α) (v : Value) (hx : a.eval x = ek k) (hn : (kvs.map (·.1)).Nodup) (hk : (k, v) ∈ kvs) (hK : wpListIn F nF Tryd.prog ops Q rest (a.put o.dst (if ok then .tuple #[v, .bool true] else v)) w) : wpListIn F nF Tryd.prog ops Q (o :: rest) a w :=
  wpListIn_op hg (by rw [hop]; intro c h; cases h) (by simp [Oper.about, hop]) (by simp [execOp, hop, hm, hx]) (run_lookup_yes K ht h hn hk ok) hK
theorem map_update_new_in (hg : o.guard = none) (m x y : Operand) (hop : o.op = .mapUpdate t m x y) (K : KeyOK kt ek) (ht : Tryd.prog.underlying t = some (.map kt et))
    (hm : a.eval m = .map (some b)) (h : MapIs ek w b kvs) (k : α) (v : Value) (hx : a.eval x = ek k) (hy : a.eval y = v) (hk : k ∉ kvs.map (·.1))
    (hK : ∀ w', MapIs ek w' b (kvs ++ [(k, v)]) → w.grownBy w' (some b) → wpListIn F nF Tryd.prog ops Q rest (a.put o.dst undef) w') : wpListIn F nF Tryd.prog ops Q (o :: rest) a w := by
  obtain ⟨w', h1, h2, h3⟩ := run_mapUpdate_new K ht h hk v
  exact wpListIn_opu hg (by rw [hop]; intro c h; cases h) (by simp [Oper.about, hop]) (by simp [execOp, hop, hm, hx, hy]) h1 (hK w' h2 h3)
end

section
variable {w : World} {ops : Array Oper} {rest : List Oper} {o : Oper} {a : Act} {Q : Exit → Act → World → Prop} {F : Fence} {nF : Nat}
/-- a whole array or struct is stored into its variable, inside a fence -/
theorem store_row_in (hgd : o.guard = none) (ty : TypeId) (x y : Operand) (ho : o.op = .store ty x y)
    (g : Nat) (cells : Array Value) (hx : a.eval x = .pointer (some ⟨g, 0, none⟩)) (hy : a.eval y = .agg cells)
    (t : TypeId) (old : Array Value) (hg : w.heap[g]? = some (.cells old t (0, 0))) (hi : (Tryd.prog.info? ty).map (·.size) = some cells.size)
    (hold : old.size = cells.size) (h1 : cells.all (·.oneCell') = true)
    (h : wpListIn F nF Tryd.prog ops Q rest (a.put o.dst undef) (w.setRow g cells)) : wpListIn F nF Tryd.prog ops Q (o :: rest) a w :=
  wpListIn_opu hgd (by rw [ho]; intro c h; cases h) (by simp [Oper.about, ho]) (s := Instr.storeAt ty (.pointer (some ⟨g, 0, none⟩)) (.agg cells)) (by simp [execOp, ho, hx, hy])
    (by simp only [Instr.storeAt, Instr.sureAddr, Sem.run_bind, Sem.run_pure, Result.andThen_ok, run_storeVar_row w g t ty old cells hg hi hold h1]) h
end
theorem setRow_old {w : World} {k i : Nat} {cs : Array Value} {o : Option Obj} (h : w.heap[k]? = o) (hne : k ≠ i) : (w.setRow i cs).heap[k]? = o := (setRow_other w i k cs hne).trans h
theorem setRow_same {w : World} {k : Nat} {cs old : Array Value} {t : TypeId} (h : w.heap[k]? = some (.cells old t (0, 0))) : (w.setRow k cs).heap[k]? = some (.cells cs t (0, 0)) := setRow_heap w k old cs t _ h
theorem keeps_setRow {w : World} {k : Nat} {cs old : Array Value} {t : TypeId} (h : w.heap[k]? = some (.cells old t (0, 0))) : KeepsOthers w (w.setRow k cs) :=
  ⟨by simp [World.setRow], fun i o hi ho => (setRow_other w k i cs (by rintro rfl; rw [h] at hi; cases hi; cases ho)).trans hi⟩

theorem run_findAsking {α : Type} [DecidableEq α] {ek : α → Value} {kt : TypeId} (heq : ∀ a b w, (Op.equal kt (ek a) (ek b)).run Tryd.prog w = .ok (decide (a = b)) w) (a : α) :
    ∀ (es : List MapEntry) (ks : List α) (i : Nat) (w : World), es.map (·.key) = ks.map ek → (Instr.findAsking kt (ek a) es i).run Tryd.prog w = .ok (findSpec a ks es i) w
  | [], [], _, _, _ => by simp [Instr.findAsking, findSpec]
  | [], k :: ks, _, _, h => by simp at h
  | e :: es, [], _, _, h => by simp at h
  | e :: es, k :: ks, i, w, h => by
    simp only [List.map_cons, List.cons.injEq] at h
    have ih := run_findAsking heq a es ks (i + 1) w h.2
    simp only [Instr.findAsking, Sem.run_bind, h.1, heq, Result.andThen_ok, findSpec]
    by_cases hk : a = k
    · simp [hk]
    · simp only [hk, decide_false, if_false, Bool.false_eq_true]; exact ih
end Go.Proofs.YtppmgbjdbnedoalDoor

/- Slices of sets and maps of sets of one's own. -/
set_option linter.unusedVariables false
set_option linter.unusedSimpArgs false
namespace Go.Proofs.YtppmgbjdbnedoalDoor
open Go.RowKit

def setKey (n : Nat) : Value := .int .u64 n
theorem findNow_set (a : Nat) : ∀ (es : List MapEntry) (ks : List Nat) (i : Nat), es.map (·.key) = ks.map setKey → Instr.findNow (.int .u64) (setKey a) es i = some (findSpec a ks es i)
  | [], [], _, _ => rfl
  | e :: es, k :: ks, i, h => by
    simp only [List.map_cons, List.cons.injEq] at h
    obtain ⟨h1, h2⟩ := h
    have ih := findNow_set a es ks (i + 1) h2
    unfold setKey at h1 ih ⊢
    by_cases hk : a = k
    · subst hk; simp [Instr.findNow, Instr.sameNow, h1, findSpec]
    · have hk2 : ((a : Int) == (k : Int)) = false := by rw [beq_eq_false_iff_ne]; omega
      simp [Instr.findNow, Instr.sameNow, h1, findSpec, hk, hk2, ih]
  | [], k :: ks, _, h => by simp at h
  | e :: es, [], _, h => by simp at h
theorem key_set : KeyOK 34 setKey where
  check := fun a em w => by kernel_rfl
  find := fun a es ks w h => by
    unfold Instr.findKey
    rw [Sem.run_bind, run_underlying Tryd.underlying34]
    simp only [Result.andThen_ok]
    rw [show Instr.findNow (.int .u64) (setKey a) es 0 = some (findSpec a ks es 0) from findNow_set a es ks 0 h]
    rfl
theorem infoSet : (Tryd.prog.info? 34).map (fun i => (i.zero, i.size, i.bytes)) = some (some (.int .u64 0), 1, 8) := by kernel_rfl
/-- a slice of sets of one's own -/
structure SCol (w0 w : World) (v : Value) (xs : List Nat) : Prop where
  own : w.ownsRow w0.heap.size 34 1 v xs.length (xs.map setKey)
  below : Below w0.heap.size w0 w
/-- all blocks but one are as they were -/
theorem append_set {ops : Array Oper} {rest : List Oper} {o : Oper} {a : Act} {w0 w : World} {Q : Exit → Act → World → Prop} (hgd : o.guard = none) (s x : Operand)
    (ho : o.op = .call { callee := .builtin .append, args := #[s, x], argTypes := #[41, 41] }) {v : Value} {xs : List Nat} (hc : SCol w0 w v xs) (hs : a.eval s = v)
    (y : Nat) (hx : a.eval x = .slice (some ⟨w.heap.size, 0, none⟩) 1 1) (hlen : xs.length ≤ 1000000000)
    (h : ∀ v' w', SCol w0 w' v' (xs ++ [y]) → w.grownBy w' v.ownBlock → (v'.ownBlock = v.ownBlock ∨ ∀ k, v'.ownBlock = some k → w.heap.size ≤ k) → wpList Tryd.prog ops Q rest (a.put o.dst v') w') : wpList Tryd.prog ops Q (o :: rest) a (w.alloc (.cells #[.int .u64 y] 34)) := by
  obtain ⟨i0, hi, hz0, hz1, hz2⟩ := info_parts infoSet
  refine wpList_append_own_at _ hgd s x 41 ho w0.heap.size 34 i0 (.int .u64 0) 1 8 Tryd.underlying41 hi hz0 hz1 hz2 rfl (by decide) v xs.length (xs.map setKey) hs (hc.own.alloc _) ⟨w.heap.size, 0, none⟩ 1 1 [.int .u64 y] hx rfl (cell_one_new _ _ _) (by simp [Value.oneCell']) (by simp only [maxLen]; omega) (by omega) (by have := hc.below.size; simp; omega) ?_
  intro v' w' hown' hgrow hnil hat
  refine h v' w' ⟨by simpa [setKey] using hown', ?_⟩ ⟨hgrow.os, hgrow.tape, hgrow.output, by have := hgrow.size; simp at this; omega, fun k hk hne => (hgrow.block k (by simp; omega) hne).trans (heap_alloc_lt _ _ _ hk)⟩ ?_
  · refine (hc.below.alloc hc.below.size _).grown hgrow (by have := hc.below.size; simp; omega) ?_
    intro k hk
    exact (World.ownsRow.lt (hc.own.alloc (.cells #[.int .u64 y] 34)) k hk.symm.symm).1
  · rcases hat with e | e
    · exact .inl e
    · refine .inr fun k hk => ?_
      rw [e] at hk
      have := Option.some.inj hk
      simp at this; omega
theorem map_insert_new {α : Type} [DecidableEq α] {ek : α → Value} {kt et t : TypeId} {ops : Array Oper} {rest : List Oper} {o : Oper} {a : Act} {Q : Exit → Act → World → Prop} {w : World} {b : Nat} {kvs : List (α × Value)} (hg : o.guard = none) (m x y : Operand) (hop : o.op = .insert t m x y) (K : KeyOK kt ek) (ht : Tryd.prog.underlying t = some (.map kt et))
    (hm : a.eval m = .map (some b)) (h : MapIs ek w b kvs) (k : α) (v : Value) (hx : a.eval x = ek k) (hy : a.eval y = v) (hk : k ∉ kvs.map (·.1))
    (hK : ∀ w', MapIs ek w' b (kvs ++ [(k, v)]) → w.grownBy w' (some b) → wpList Tryd.prog ops Q rest (a.put o.dst undef) w') : wpList Tryd.prog ops Q (o :: rest) a w := by
  obtain ⟨w', h1, h2, h3⟩ := run_mapUpdate_new K ht h hk v
  exact wpList_opu hg (by simp [execOp, hop, hm, hx, hy]) h1 (hK w' h2 h3)
end Go.Proofs.YtppmgbjdbnedoalDoor

/- The sets that arise by closures and complements, in the order in which they are found: plain numbers. -/
set_option linter.unusedVariables false
set_option linter.unusedSimpArgs false
namespace Go.Proofs.YtppmgbjdbnedoalDoor

def addIf (l : List Nat) (t : Nat) : List Nat := if t ∈ l then l else l ++ [t]
theorem addIf_mem {l : List Nat} {t x : Nat} : x ∈ addIf l t ↔ x ∈ l ∨ x = t := by
  unfold addIf
  split
  · rename_i h
    exact ⟨.inl, fun h2 => h2.elim id (fun e => e ▸ h)⟩
  · simp
theorem addIf_nodup {l : List Nat} {t : Nat} (h : l.Nodup) : (addIf l t).Nodup := by
  unfold addIf
  split
  · exact h
  · rename_i hn
    rw [List.nodup_append]
    exact ⟨h, by simp, fun a ha b hb e => hn (by rw [← List.mem_singleton.1 hb, ← e]; exact ha)⟩
theorem addIf_pre (l : List Nat) (t : Nat) : l <+: addIf l t := by
  unfold addIf
  split
  · exact List.prefix_rfl
  · exact List.prefix_append _ _
theorem pre_cell {l m : List Nat} (h : l <+: m) {j : Nat} (hj : j < l.length) : cell m j = cell l j := by
  obtain ⟨r, rfl⟩ := h
  unfold cell
  rw [List.getD_eq_getElem?_getD, List.getD_eq_getElem?_getD, List.getElem?_append_left hj]
/-- both sets that come of one -/
def addTwo (cs l : List Nat) (x : Nat) : List Nat := addIf (addIf l (closureN cs x)) (otherN cs.length x)
def fourGo (cs : List Nat) : Nat → Nat → List Nat → List Nat
  | 0, _, l => l
  | k + 1, i, l => if i < l.length then fourGo cs k (i + 1) (addTwo cs l (cell l i)) else l
def fourN (cs : List Nat) (s : Nat) : List Nat := fourGo cs 15 0 [s]
/-- what holds of the list as it grows -/
structure FourI (cs : List Nat) (s i : Nat) (l : List Nat) : Prop where
  le : i ≤ l.length
  one : [s] <+: l
  nodup : l.Nodup
  among : ∀ x ∈ l, x ∈ fourteen cs s
  done : ∀ j, j < i → closureN cs (cell l j) ∈ l ∧ otherN cs.length (cell l j) ∈ l
theorem FourI.start (cs : List Nat) (s : Nat) : FourI cs s 0 [s] :=
  ⟨by simp, List.prefix_rfl, by simp, fun x hx => by rw [List.mem_singleton.1 hx]; simp [fourteen], fun j hj => by omega⟩
theorem cell_mem {l : List Nat} {i : Nat} (hi : i < l.length) : cell l i ∈ l := by
  unfold cell
  rw [List.getD_eq_getElem?_getD, List.getElem?_eq_getElem hi]
  exact List.getElem_mem hi
theorem nodup_le {l m : List Nat} (hd : l.Nodup) (h : ∀ x ∈ l, x ∈ m) : l.length ≤ m.length := by
  induction l generalizing m with
  | nil => simp
  | cons a t ih =>
    rw [List.nodup_cons] at hd
    have ha := h a (by simp)
    have h1 := ih (m := m.erase a) hd.2 (fun x hx => (List.mem_erase_of_ne (fun e => hd.1 (by rw [← e]; exact hx))).2 (h x (by simp [hx])))
    have h2 := List.length_erase_of_mem ha
    have h3 := List.length_pos_of_mem ha
    simp only [List.length_cons]; omega
theorem FourI.few {cs : List Nat} {s i : Nat} {l : List Nat} (h : FourI cs s i l) : l.length ≤ 14 := by
  have := nodup_le h.nodup h.among
  rwa [fourteen_len] at this
theorem FourI.next {cs : List Nat} {s i : Nat} {l : List Nat} (hs : spaceB cs = true) (hc : Codes cs) (hl : s < 2 ^ cs.length) (h : FourI cs s i l) (hi : i < l.length) : FourI cs s (i + 1) (addTwo cs l (cell l i)) := by
  have hp : l <+: addTwo cs l (cell l i) := (addIf_pre _ _).trans (addIf_pre _ _)
  have hm := h.among _ (cell_mem hi)
  have hf := fourteen_closed hs hc hl _ hm
  refine ⟨?_, h.one.trans hp, addIf_nodup (addIf_nodup h.nodup), fun x hx => ?_, fun j hj => ?_⟩
  · have := hp.length_le; omega
  · unfold addTwo at hx
    rw [addIf_mem, addIf_mem] at hx
    rcases hx with (hx | rfl) | rfl
    · exact h.among x hx
    · exact hf.1
    · exact hf.2
  · rw [pre_cell hp (by omega)]
    unfold addTwo
    rw [addIf_mem, addIf_mem, addIf_mem, addIf_mem]
    by_cases e : j = i
    · subst e; exact ⟨.inl (.inr rfl), .inr rfl⟩
    · have := h.done j (by omega)
      exact ⟨.inl (.inl this.1), .inl (.inl this.2)⟩
theorem fourGo_end {cs : List Nat} {k i : Nat} {l : List Nat} (h : l.length ≤ i) : fourGo cs k i l = l := by
  cases k with
  | zero => rfl
  | succ k => show (if i < l.length then _ else l) = l; rw [if_neg (by omega)]
theorem fourGo_next {cs : List Nat} {k i : Nat} {l : List Nat} (h : i < l.length) : fourGo cs (k + 1) i l = fourGo cs k (i + 1) (addTwo cs l (cell l i)) := if_pos h
theorem four_end {cs : List Nat} {s : Nat} (hs : spaceB cs = true) (hc : Codes cs) (hl : s < 2 ^ cs.length) : ∀ k i l, FourI cs s i l → 15 ≤ k + i → FourI cs s (fourGo cs k i l).length (fourGo cs k i l)
  | 0, i, l, h, hk => by have := h.le; have := h.few; omega
  | k + 1, i, l, h, hk => by
    by_cases hi : i < l.length
    · rw [fourGo_next hi]
      exact four_end hs hc hl k _ _ (h.next hs hc hl hi) (by omega)
    · rw [fourGo_end (by omega)]
      have e : i = l.length := by have := h.le; omega
      exact e ▸ h
theorem four_inv {cs : List Nat} {s : Nat} (hs : spaceB cs = true) (hc : Codes cs) (hl : s < 2 ^ cs.length) : FourI cs s (fourN cs s).length (fourN cs s) := four_end hs hc hl 15 0 _ (FourI.start cs s) (by omega)
theorem four_len {cs : List Nat} {s : Nat} (hs : spaceB cs = true) (hc : Codes cs) (hl : s < 2 ^ cs.length) : 2 ≤ (fourN cs s).length ∧ (fourN cs s).length ≤ 14 ∧ (fourN cs s).length % 2 = 0 := by
  have h := four_inv hs hc hl
  have h0 : 1 ≤ (fourN cs s).length := h.one.length_le
  have he := even_len (n := cs.length) hc.1 _ (fourN cs s) (Nat.le_refl _) h.nodup (fun x hx => by
    obtain ⟨j, hj, rfl⟩ := List.getElem_of_mem hx
    refine ⟨fourteen_lt hl _ (h.among _ hx), ?_⟩
    have := (h.done j hj).2
    unfold cell at this
    rwa [List.getD_eq_getElem?_getD, List.getElem?_eq_getElem hj] at this)
  exact ⟨by omega, h.few, he⟩
theorem four_lt {cs : List Nat} {s : Nat} (hs : spaceB cs = true) (hc : Codes cs) (hl : s < 2 ^ cs.length) (j : Nat) : cell (fourN cs s) j < 2 ^ cs.length := by
  by_cases hj : j < (fourN cs s).length
  · exact fourteen_lt hl _ ((four_inv hs hc hl).among _ (cell_mem hj))
  · rw [cell_far (by omega)]; exact Nat.two_pow_pos _
theorem four_zero {cs : List Nat} {s : Nat} (hs : spaceB cs = true) (hc : Codes cs) (hl : s < 2 ^ cs.length) : cell (fourN cs s) 0 = s := pre_cell (four_inv hs hc hl).one (j := 0) (by simp)
/-- how often a number stands among the first ones -/
def timesTo (l : List Nat) (x : Nat) : Nat → Nat
  | 0 => 0
  | k + 1 => timesTo l x k + (if cell l k = x then 1 else 0)
theorem times_none {l : List Nat} {x : Nat} : ∀ k, (∀ j, j < k → cell l j ≠ x) → timesTo l x k = 0
  | 0, _ => rfl
  | k + 1, h => by
    show timesTo l x k + (if cell l k = x then 1 else 0) = 0
    rw [times_none k (fun j hj => h j (by omega)), if_neg (h k (by omega))]
theorem times_one {l : List Nat} {x : Nat} (hd : l.Nodup) (hx : x ∈ l) : timesTo l x l.length = 1 := by
  obtain ⟨j, hj, rfl⟩ := List.getElem_of_mem hx
  have hne : ∀ i, i < l.length → cell l i = l[j] → i = j := fun i hi h => by
    unfold cell at h
    rw [List.getD_eq_getElem?_getD, List.getElem?_eq_getElem hi] at h
    exact (List.getElem_inj hd).1 h
  have h0 : ∀ d, j + d < l.length → timesTo l l[j] (j + d + 1) = 1 := by
    intro d
    induction d with
    | zero =>
      intro _
      show timesTo l l[j] j + (if cell l j = l[j] then 1 else 0) = 1
      rw [times_none j (fun i hi h => by have := hne i (by omega) h; omega), if_pos (by unfold cell; rw [List.getD_eq_getElem?_getD, List.getElem?_eq_getElem hj]; rfl)]
    | succ d ih =>
      intro hd2
      show timesTo l l[j] (j + d + 1) + (if cell l (j + d + 1) = l[j] then 1 else 0) = 1
      rw [ih (by omega), if_neg (fun h => by have := hne _ hd2 h; omega)]
  have := h0 (l.length - 1 - j) (by omega)
  rwa [show j + (l.length - 1 - j) + 1 = l.length by omega] at this
end Go.Proofs.YtppmgbjdbnedoalDoor

/- The space that sets make: plain numbers. -/
set_option linter.unusedVariables false
set_option linter.unusedSimpArgs false
namespace Go.Proofs.YtppmgbjdbnedoalDoor

/-- what the sets with the point have in common -/
def meetC (p : Nat) (ss : List Nat) (b : Nat) : Nat := ss.foldl (fun b s => if s.testBit p = true then b &&& s else b) b
def fromCell (n : Nat) (ss : List Nat) (p : Nat) : Nat := meetC p ss (allN n)
def fromN (n : Nat) (ss : List Nat) : List Nat := (List.range n).map fun p => fromCell n ss p
theorem meetC_bit (p i : Nat) : ∀ (ss : List Nat) (b : Nat), (meetC p ss b).testBit i = true ↔ b.testBit i = true ∧ ∀ s ∈ ss, s.testBit p = true → s.testBit i = true
  | [], b => by simp [meetC]
  | s :: ss, b => by
    have ih := meetC_bit p i ss (if s.testBit p = true then b &&& s else b)
    unfold meetC at ih ⊢
    rw [List.foldl_cons, ih]
    by_cases h : s.testBit p = true
    · rw [if_pos h, Nat.testBit_and, Bool.and_eq_true]
      constructor
      · rintro ⟨⟨h1, h2⟩, h3⟩
        refine ⟨h1, fun t ht htp => ?_⟩
        rcases List.mem_cons.1 ht with rfl | ht
        · exact h2
        · exact h3 t ht htp
      · rintro ⟨h1, h2⟩
        exact ⟨⟨h1, h2 s (by simp) h⟩, fun t ht => h2 t (by simp [ht])⟩
    · rw [if_neg h]
      constructor
      · rintro ⟨h1, h2⟩
        refine ⟨h1, fun t ht htp => ?_⟩
        rcases List.mem_cons.1 ht with rfl | ht
        · exact absurd htp h
        · exact h2 t ht htp
      · rintro ⟨h1, h2⟩
        exact ⟨h1, fun t ht => h2 t (by simp [ht])⟩
theorem meetC_le (p : Nat) : ∀ (ss : List Nat) (b : Nat), meetC p ss b ≤ b
  | [], b => Nat.le_refl _
  | s :: ss, b => by
    have ih := meetC_le p ss (if s.testBit p = true then b &&& s else b)
    unfold meetC at ih ⊢
    rw [List.foldl_cons]
    refine Nat.le_trans ih ?_
    split
    · exact Nat.and_le_left
    · exact Nat.le_refl _
theorem meetC_snoc (p : Nat) (ss : List Nat) (s b : Nat) : meetC p (ss ++ [s]) b = if s.testBit p = true then meetC p ss b &&& s else meetC p ss b := by
  unfold meetC; rw [List.foldl_append]; rfl
theorem from_len (n : Nat) (ss : List Nat) : (fromN n ss).length = n := by simp [fromN]
theorem from_cell {n : Nat} {ss : List Nat} {p : Nat} (hp : p < n) : cell (fromN n ss) p = fromCell n ss p := by
  unfold cell fromN
  rw [List.getD_eq_getElem?_getD, List.getElem?_map, List.getElem?_range hp]; rfl
theorem fromCell_lt (n : Nat) (ss : List Nat) (p : Nat) : fromCell n ss p < 2 ^ n := Nat.lt_of_le_of_lt (meetC_le _ _ _) (all_lt n)
theorem from_bit {n : Nat} {ss : List Nat} {p i : Nat} (hp : p < n) (hi : i < n) : (cell (fromN n ss) p).testBit i = true ↔ ∀ s ∈ ss, s.testBit p = true → s.testBit i = true := by
  rw [from_cell hp]
  unfold fromCell
  rw [meetC_bit, all_bit, decide_eq_true_eq]
  exact ⟨fun h => h.2, fun h => ⟨hi, h⟩⟩
theorem from_codes {n : Nat} (h1 : 1 ≤ n) (h6 : n ≤ 6) (ss : List Nat) : Codes (fromN n ss) := by
  refine ⟨by rw [from_len]; exact h1, by rw [from_len]; exact h6, fun p => ?_⟩
  rw [from_len]
  by_cases hp : p < n
  · rw [from_cell hp]; exact fromCell_lt n ss p
  · rw [cell_far (by rw [from_len]; omega)]; exact Nat.two_pow_pos _
theorem from_space (n : Nat) (ss : List Nat) : spaceB (fromN n ss) = true := by
  refine space_iff.2 fun p hp => ?_
  rw [from_len] at hp ⊢
  refine ⟨(from_bit hp hp).2 fun s _ h => h, fun q hq hb => ?_⟩
  refine sub_of (n := n) (by rw [from_cell hq]; exact fromCell_lt n ss q) fun i hi h => ?_
  rw [from_bit hp hi]
  rw [from_bit hq hi] at h
  rw [from_bit hp hq] at hb
  exact fun s hs hsp => h s hs (hb s hs hsp)
/-- the given sets are open -/
theorem from_open {n : Nat} {ss : List Nat} {s : Nat} (hs : s ∈ ss) : openB (fromN n ss) s = true := open_iff.2 fun p hp h => by
  rw [from_len] at hp
  exact sub_of (n := n) (by rw [from_cell hp]; exact fromCell_lt n ss p) fun i hi hb => (from_bit hp hi).1 hb s hs h
theorem from_more {n : Nat} {ss ts : List Nat} (h : ∀ s ∈ ss, s ∈ ts) {p : Nat} (hp : p < n) : subB (cell (fromN n ts) p) (cell (fromN n ss) p) = true :=
  sub_of (n := n) (by rw [from_cell hp]; exact fromCell_lt n ts p) fun i hi hb => (from_bit hp hi).2 fun s hs => (from_bit hp hi).1 hb s (h s hs)
theorem from_more_open {n : Nat} {ss ts : List Nat} (h : ∀ s ∈ ss, s ∈ ts) {p : Nat} (hp : p < n) : openB (fromN n ts) (cell (fromN n ss) p) = true := open_iff.2 fun q hq hb => by
  rw [from_len] at hq
  refine sub_trans (from_more h hq) ?_
  exact (space_iff.1 (from_space n ss) p (by rw [from_len]; exact hp)).2 q (by rw [from_len]; exact hq) hb
/-- the open sets make the space again -/
theorem from_opens {cs : List Nat} (hs : spaceB cs = true) (hc : Codes cs) : fromN cs.length (opensN cs) = cs := by
  refine list_ext_cell (from_len _ _) fun p hp => ?_
  rw [from_len] at hp
  refine ext_bits (n := cs.length) (by rw [from_cell hp]; exact fromCell_lt _ _ p) (hc.2.2 p) fun i hi => ?_
  rw [Bool.eq_iff_iff, from_bit hp hi]
  constructor
  · intro h
    refine h (cell cs p) ?_ (space_iff.1 hs p hp).1
    unfold opensN
    rw [List.mem_filter, List.mem_range]
    exact ⟨hc.2.2 p, cell_open hs hp⟩
  · intro h s hsm hb
    unfold opensN at hsm
    rw [List.mem_filter, List.mem_range] at hsm
    exact sub_iff.1 (open_iff.1 hsm.2 p hp hb) i h
end Go.Proofs.YtppmgbjdbnedoalDoor

/- ply: From. -/
set_option linter.unusedVariables false
set_option linter.unusedSimpArgs false
namespace Go.Proofs.YtppmgbjdbnedoalDoor
open Go.RowKit

theorem allF_any (n : Nat) (c : Nat → Nat) (w : World) (hn : n ≤ 6) :
    Calls Tryd.prog 15 #[spF n c] w fun e w' => e = .returned (.int .u64 (allN n : Nat)) ∧ Below w.heap.size w w' := by
  have hz := Lib.hid (all_num n hn)
  go_enter Tryd.func15, Tryd.ntmps15
  go_wp2_with fail
  go_ret
  exact ⟨ret_int hz.out, (Below.refl _ _).alloc (Nat.le_refl _) _⟩
/-- the cells, as far as row p -/
def fout (n : Nat) (ss : List Nat) (p j : Nat) : Nat := if j < p then fromCell n ss j else 0
/-- the cells, as far as set q of row p -/
def fpart (n : Nat) (ss : List Nat) (p q j : Nat) : Nat := if j < p then fromCell n ss j else if j = p then meetC p (ss.take q) (allN n) else 0
theorem fpart_zero (n : Nat) (ss : List Nat) (p j : Nat) : fpart n ss p 0 j = if j = p then allN n else fout n ss p j := by
  unfold fpart fout
  by_cases h : j = p
  · subst h; simp [meetC]
  · by_cases h2 : j < p <;> simp [h, h2]
theorem fpart_next {n : Nat} {ss : List Nat} {p q : Nat} (hq : q < ss.length) (j : Nat) : fpart n ss p (q + 1) j = if j = p then (if (cell ss q).testBit p = true then fpart n ss p q p &&& cell ss q else fpart n ss p q p) else fpart n ss p q j := by
  unfold fpart
  by_cases h : j = p
  · subst h
    have e : cell ss q = ss[q] := by unfold cell; rw [List.getD_eq_getElem?_getD, List.getElem?_eq_getElem hq]; rfl
    simp only [Nat.lt_irrefl, if_false, if_true]
    rw [List.take_succ_eq_append_getElem hq, meetC_snoc, e]
  · simp [h]
theorem fpart_row {n : Nat} {ss : List Nat} {p q : Nat} (hq : ss.length ≤ q) (j : Nat) : fpart n ss p q j = fout n ss (p + 1) j := by
  unfold fpart fout
  rw [List.take_of_length_le hq]
  by_cases h : j < p
  · simp [h, show j < p + 1 by omega]
  · by_cases e : j = p
    · subst e; simp [fromCell]
    · simp [h, e, show ¬ j < p + 1 by omega]
theorem fout_all (n : Nat) (ss : List Nat) (j : Nat) : fout n ss n j = cell (fromN n ss) j := by
  unfold fout
  by_cases h : j < n
  · rw [if_pos h, from_cell h]
  · rw [if_neg h, cell_far (by rw [from_len]; omega)]
theorem fpart_lt {n : Nat} (hn : n ≤ 6) (ss : List Nat) (p q j : Nat) : fpart n ss p q j < 64 := by
  have h1 := all_lt n
  have h2 : 2 ^ n ≤ 64 := Nat.pow_le_pow_right (n := 2) (by omega) hn
  have h3 := fromCell_lt n ss j
  have h4 := meetC_le p (ss.take q) (allN n)
  unfold fpart
  split
  · omega
  · split <;> omega

end Go.Proofs.YtppmgbjdbnedoalDoor

/- ply: Fourteen. -/
set_option linter.unusedVariables false
set_option linter.unusedSimpArgs false
namespace Go.Proofs.YtppmgbjdbnedoalDoor
open Go.RowKit
attribute [local go_sem] Oper.semAt_some

def trues (l : List Nat) : List (Nat × Value) := l.map fun t => (t, .bool true)
theorem trues_keys (l : List Nat) : (trues l).map (·.1) = l := by unfold trues; rw [List.map_map]; exact List.map_id' l
theorem trues_mem {l : List Nat} {t : Nat} (h : t ∈ l) : (t, Value.bool true) ∈ trues l := List.mem_map.2 ⟨t, h, rfl⟩
theorem trues_snoc (l : List Nat) (t : Nat) : trues (l ++ [t]) = trues l ++ [(t, .bool true)] := by unfold trues; simp

/-- the memory of Fourteen: the space, the map, the queue -/
structure FW (w0 : World) (cs : List Nat) (B1 : Nat) (qv : Value) (l : List Nat) (W : World) : Prop where
  sp : SpF W B1 cs.length (cell cs)
  m : MapIs setKey W (B1 + 1) (trues l)
  q : SCol w0 W qv l
  qa : ∀ g, qv.ownBlock = some g → B1 + 1 < g
theorem SCol.step {w0 w w' : World} {v : Value} {xs : List Nat} (h : SCol w0 w v xs) (hb : Below w.heap.size w w') : SCol w0 w' v xs := ⟨h.own.below' hb, h.below.trans (hb.mono h.below.size)⟩
theorem FW.below {w0 : World} {cs : List Nat} {B1 : Nat} {qv : Value} {l : List Nat} {W W' : World} (h : FW w0 cs B1 qv l W) (hb : Below W.heap.size W W') : FW w0 cs B1 qv l W' :=
  ⟨h.sp.below hb, h.m.of_block (hb.block _ h.m.lt), h.q.step hb, h.qa⟩
theorem SCol.row {w0 w : World} {v : Value} {xs : List Nat} (h : SCol w0 w v xs) (h0 : 0 < xs.length) : ∃ g cap cur, v = .slice (some ⟨g, 0, none⟩) xs.length cap ∧ w.heap[g]? = some (.cells cur 34 (0, 0)) ∧ xs.length ≤ cap ∧ cap ≤ maxLen ∧ ∀ j, j < xs.length → cur[j]? = some (.int .u64 (cell xs j)) := by
  obtain ⟨h1, ⟨_, h2⟩ | ⟨g, cap, cur, h2, h3, h4, h5, h6, h7, h8⟩⟩ := h.own
  · omega
  · refine ⟨g, cap, cur, h2, h4, h5, h6, fun j hj => ?_⟩
    have h9 : (xs.map setKey)[j]? = some (.int .u64 (cell xs j)) := by
      unfold cell setKey
      rw [List.getElem?_map, List.getElem?_eq_getElem hj, List.getD_eq_getElem?_getD, List.getElem?_eq_getElem hj]; rfl
    rw [← h8, List.getElem?_take, if_pos (by omega)] at h9
    simpa using h9
theorem FW.cells {w0 : World} {cs : List Nat} {B1 : Nat} {g cap : Nat} {l : List Nat} {W : World} (h : FW w0 cs B1 (.slice (some ⟨g, 0, none⟩) l.length cap) l W) {k : Nat} (hk : k < l.length) :
    W.cell? ⟨B1, 0, none⟩ = some (.int .i64 cs.length) ∧ W.cell? ⟨B1, 1, none⟩ = some (.int .u64 (cell cs 0)) ∧ W.cell? ⟨B1, 2, none⟩ = some (.int .u64 (cell cs 1)) ∧ W.cell? ⟨B1, 3, none⟩ = some (.int .u64 (cell cs 2)) ∧
    W.cell? ⟨B1, 4, none⟩ = some (.int .u64 (cell cs 3)) ∧ W.cell? ⟨B1, 5, none⟩ = some (.int .u64 (cell cs 4)) ∧ W.cell? ⟨B1, 6, none⟩ = some (.int .u64 (cell cs 5)) ∧ W.cell? ⟨g, k, none⟩ = some (.int .u64 (cell l k)) := by
  obtain ⟨d0, d1, d2, d3, d4, d5, d6⟩ := h.sp.cells
  obtain ⟨g', cap', cur, he, hg, _, _, hc⟩ := h.q.row (by omega)
  injection he with e1 e2 e3
  injection e1 with e1
  injection e1 with e1 _ _
  subst e1
  exact ⟨d0, d1, d2, d3, d4, d5, d6, cell_of hg (hc k hk)⟩
theorem SCol.other {w0 w w' : World} {v : Value} {xs : List Nat} {b : Nat} (h : SCol w0 w v xs) (hg : w.grownBy w' (some b)) (hne : ∀ g, v.ownBlock = some g → b < g) (hB : w0.heap.size ≤ b) : SCol w0 w' v xs := by
  refine ⟨h.own.kept hg ?_, h.below.grown hg h.below.size fun k e => by have := Option.some.inj e; omega⟩
  rcases hv : v.ownBlock with _ | g
  · exact .inl rfl
  · exact .inr fun e => by have := hne g hv; have := Option.some.inj e; omega
theorem FW.push {w0 : World} {cs : List Nat} {B1 : Nat} {qv v5 : Value} {l : List Nat} {t : Nat} {W W4 W5 : World} (h : FW w0 cs B1 qv l W) (hm4 : MapIs setKey W4 (B1 + 1) (trues l ++ [(t, .bool true)])) (hg4 : W.grownBy W4 (some (B1 + 1))) (hq5 : SCol w0 W5 v5 (l ++ [t])) (hg5 : W4.grownBy W5 qv.ownBlock)
    (hat : v5.ownBlock = qv.ownBlock ∨ ∀ k, v5.ownBlock = some k → W4.heap.size ≤ k) : FW w0 cs B1 v5 (l ++ [t]) W5 := by
  have hmb := hm4.lt
  refine ⟨?_, ?_, hq5, fun g hg => ?_⟩
  · have h1 : SpF W4 B1 cs.length (cell cs) := (hg4.block _ h.sp.lt (fun e => by have := Option.some.inj e; omega)).trans h.sp
    exact (hg5.block _ h1.lt (fun e => by have := h.qa B1 e.symm; omega)).trans h1
  · rw [trues_snoc]
    exact hm4.of_block (hg5.block _ hmb (fun e => by have := h.qa _ e.symm; omega))
  · rcases hat with e | e
    · exact h.qa g (e ▸ hg)
    · have := e g hg; omega
theorem FW.keep {w0 : World} {cs : List Nat} {B1 : Nat} {qv : Value} {l : List Nat} {W W4 W5 : World} {k : Nat} {o : Obj} (h : FW w0 cs B1 qv l W) (hg4 : W.grownBy W4 (some (B1 + 1))) (hg5 : W4.grownBy W5 qv.ownBlock) (hk : W.heap[k]? = some o) (h1 : k ≠ B1 + 1) (h2 : ∀ q, qv.ownBlock = some q → q ≠ k) : W5.heap[k]? = some o := by
  have h3 := (hg4.block _ (heap_lt hk) (fun e => by have := Option.some.inj e; omega)).trans hk
  exact (hg5.block _ (heap_lt h3) (fun e => h2 k e.symm rfl)).trans h3
set_option maxRecDepth 100000 in
set_option maxHeartbeats 3200000 in
theorem Fourteen_yes (v : Value) (cs : List Nat) (s : Nat) (w : World) (hr : Reads w v (ofNats cs)) (hc : Codes cs) (hsp : spaceB cs = true) (hs : s < 2 ^ cs.length) (hT : Tab w) :
    Calls Tryd.prog 5 #[v, .int .i64 s] w fun e w' => ∃ v', e = .returned (.tuple #[v', .int .i64 0]) ∧ Col w w' v' (ofNats (fourN cs s)) := by
  have hr0 := hr
  obtain ⟨a, cap, rfl, _, _, _⟩ := hr.open
  have hl6 := hc.2.1
  clear hr
  have hmm := @run_makeMap Tryd.prog
  go_enter Tryd.func5, Tryd.ntmps5
  go_wp2_with fail
  refine (both_yes _ cs s _ hr0 hc hsp hs hT).mono ?_
  rintro e w1 ⟨rfl, hb1⟩
  obtain ⟨hs1, hb2⟩ := lay_sp hb1 cs.length (cell cs)
  have hT2 := hT.below hb2
  go_wp2_with fail
  generalize hW : World.alloc w1 _ = W at *
  have hWs : W.heap.size = w1.heap.size + 1 := by rw [← hW]; simp
  have hwB := hb1.size
  generalize w1.heap.size = B1 at *
  clear hW
  have hm0 := MapIs.made setKey W
  rw [hWs] at hm0
  obtain ⟨w2, hrun, hm2, hg2⟩ := run_mapUpdate_new (w := W.alloc (.map #[] 0)) key_set Tryd.underlying40 hm0 (a := s) (by simp) (.bool true)
  unfold setKey at hrun
  go_wp2_with fail
  rw [hrun]
  clear hrun hm0
  go_wp2_with fail
  have hw3 : FW w cs B1 (.slice (some ⟨w2.heap.size, 0, none⟩) 1 1) [s] (w2.alloc (.cells #[.int .u64 s] 34)) := by
    have hgs : W.heap.size + 1 ≤ w2.heap.size := by have := hg2.size; simpa using this
    refine ⟨alloc_old ((hg2.block _ (by simp; omega) (by intro e; have := Option.some.inj e; omega)).trans (alloc_old hs1)), ?_, ⟨⟨rfl, .inr ⟨w2.heap.size, 1, #[.int .u64 s], rfl, by omega, heap_alloc_new _ _, Nat.le_refl _, by simp [maxLen], rfl, rfl⟩⟩, ?_⟩, fun g hg => by simp [Value.ownBlock] at hg; omega⟩
    · have := hm2.of_block (w' := w2.alloc (.cells #[.int .u64 s] 34)) (heap_alloc_lt _ _ _ hm2.lt)
      simpa [trues] using this
    · refine Below.alloc ?_ (by omega) _
      exact (hb2.alloc hb2.size _).grown hg2 (by simp; omega) (fun k e => by have := Option.some.inj e; omega)
  generalize hW3 : World.alloc w2 _ = W3 at *
  have HFW := Lib.hid hw3
  have HC := Lib.hid hc
  have HSP := Lib.hid hsp
  have HSL := Lib.hid hs
  generalize w2.heap.size = g0 at *
  clear hw3 hW3 hm2 hg2 hs1 hb2 hT2 hb1 hr0 hWs hmm hc hsp hs
  go_loopw [10, 11] (fun qv i wr => ∃ (k : Nat) (l : List Nat), i = .int .i64 k ∧ FW w cs B1 qv l wr ∧ FourI cs s k l ∧ fourGo cs (15 - k) k l = fourN cs s) (fun _ i _ => 15 - (intOf i).toNat)
  case atStart => exact ⟨0, [s], rfl, HFW.out, FourI.start cs s, rfl⟩
  case round =>
    clear HFW
    obtain ⟨k, l, rfl, hfw, hfi, hgo⟩ := hrel
    have hl14 := hfi.few
    have hkl := hfi.le
    have hl0 : 0 < l.length := hfi.one.length_le
    obtain ⟨g, qc, cur, hqv, hqg, hqm, hqmm, hqc⟩ := hfw.q.row hl0
    subst hqv
    have HFW := Lib.hid hfw
    have HFI := Lib.hid hfi
    have HGO := Lib.hid hgo
    have hqcm : qc ≤ 9223372036854775807 := by unfold maxLen at hqmm; omega
    by_cases hlt : k < l.length
    · have k0 : (0 : Int) ≤ (k : Int) := by omega
      have k1 : (k : Int) < (l.length : Int) := by omega
      have k2 : (k : Int) < (qc : Int) := by omega
      have hxl : cell l k < 2 ^ cs.length := fourteen_lt HSL.out _ (hfi.among _ (cell_mem hlt))
      have hx64 := lt64_of hl6 hxl
      have HXL := Lib.hid hxl
      obtain ⟨x, hx⟩ : ∃ x, cell l k = x := ⟨_, rfl⟩
      have HX := Lib.hid hx
      have hcells := hfw.cells hlt
      rw [hx] at hcells hx64
      obtain ⟨d0, d1, d2, d3, d4, d5, d6, d7⟩ := hcells
      have hal := allN_lt64 hl6
      have han := u64_andNot (allN cs.length) x (by omega) (by omega)
      have HT := Lib.hid (hT.below hfw.q.below)
      have HXX : Hid (x < 2 ^ cs.length) := Lib.hid (by rw [← hx]; exact hxl)
      clear hfw hfi hgo hxl hx hqg hqmm hqc
      go_wp2_with fail
      go_region_held3 (fun w' => w'.cell? ⟨B1, 0, none⟩ = some (.int .i64 cs.length) ∧ w'.cell? ⟨B1, 1, none⟩ = some (.int .u64 (cell cs 0)) ∧ w'.cell? ⟨B1, 2, none⟩ = some (.int .u64 (cell cs 1)) ∧ w'.cell? ⟨B1, 3, none⟩ = some (.int .u64 (cell cs 2)) ∧
          w'.cell? ⟨B1, 4, none⟩ = some (.int .u64 (cell cs 3)) ∧ w'.cell? ⟨B1, 5, none⟩ = some (.int .u64 (cell cs 4)) ∧ w'.cell? ⟨B1, 6, none⟩ = some (.int .u64 (cell cs 5)) ∧ w'.cell? ⟨g, k, none⟩ = some (.int .u64 x))
        (first | go_keep | (rw [← HX.out]; exact (HFW.out.below ((Below.refl _ _).drew.trans hbA)).cells hlt) | (rw [← HX.out]; exact (HFW.out.below (((Below.refl _ _).drew.trans hbA).trans (hbB.mono (by have := hbA.size; simpa using this)))).cells hlt))
        (first
          | (go_at_call 14; refine (closure_any cs x _ HC.out HXX.out (HT.out.below (Below.refl _ _).drew)).mono ?_; rintro e wA ⟨rfl, hbA⟩)
          | (go_at_call 15; refine (all_any cs _ hl6).mono ?_; rintro e wB ⟨rfl, hbB⟩))
      have hbAB : Below wr.heap.size wr wB := ((Below.refl _ _).drew.trans hbA).trans (hbB.mono (by have := hbA.size; simpa using this))
      have hfb := HFW.out.below hbAB
      have hgB : g < wB.heap.size := by
        have := (World.ownsRow.lt hfb.q.own g (by simp [Value.ownBlock])).2
        exact this
      have hfc : FW w cs B1 (.slice (some ⟨g, 0, none⟩) l.length qc) l (wB.alloc (.cells #[.int .u64 (closureN cs x : Nat), .int .u64 (diff (allN cs.length) x : Nat)] 34)) := hfb.below ((Below.refl _ _).alloc (Nat.le_refl _) _)
      have htm : (wB.alloc (.cells #[.int .u64 (closureN cs x : Nat), .int .u64 (diff (allN cs.length) x : Nat)] 34)).heap[wB.heap.size]? = some (.cells #[.int .u64 (closureN cs x : Nat), .int .u64 (diff (allN cs.length) x : Nat)] 34) := heap_alloc_new _ _
      have HNX : Hid (FourI cs s (k + 1) (addTwo cs l x)) := Lib.hid (by have := HFI.out.next HSP.out HC.out HSL.out hlt; rwa [HX.out] at this)
      have HGX : Hid (fourGo cs (15 - (k + 1)) (k + 1) (addTwo cs l x) = fourN cs s) := Lib.hid (by
        have := fourGo_next (cs := cs) (k := 14 - k) hlt
        rw [show 14 - k + 1 = 15 - k by omega, HGO.out, HX.out] at this
        rw [show 15 - (k + 1) = 14 - k by omega]; exact this.symm)
      have HND := Lib.hid HFI.out.nodup
      have HTB : Hid (B1 + 1 < wB.heap.size) := Lib.hid hfb.m.lt
      have HAD : Hid ((addIf l (closureN cs x)).length ≤ 100) := Lib.hid (by have := (addIf_pre (addIf l (closureN cs x)) (otherN cs.length x)).length_le; have := HNX.out.few; unfold addTwo at this; omega)
      generalize hWC : World.alloc wB _ = WC at *
      have hTC : wB.heap.size < WC.heap.size := heap_lt htm
      generalize hTT : wB.heap.size = T at *
      obtain ⟨A, hA⟩ : ∃ A, closureN cs x = A := ⟨_, rfl⟩
      obtain ⟨D, hD⟩ : ∃ D, otherN cs.length x = D := ⟨_, rfl⟩
      have hD2 : diff (allN cs.length) x = D := hD
      have HAT : Hid (addTwo cs l x = addIf (addIf l A) D) := Lib.hid (by unfold addTwo; rw [hA, hD])
      rw [hA, hD2] at htm
      rw [hA] at HAD
      rw [hA, hD2]
      have HTM := Lib.hid htm
      have HFC := Lib.hid hfc
      clear hWC hTT hA hD hD2 hbA hbB hbAB hfb hfc htm HFW han d0 d1 d2 d3 d4 d5 d6 d7
      have hz : (zeroValue 4).run Tryd.prog WC = .ok (.bool false) WC := by kernel_rfl
      have HZ : Hid (∀ W : World, (zeroValue 4).run Tryd.prog W = .ok (.bool false) W) := Lib.hid (fun W => by kernel_rfl)
      go_wp2_with fail
      go_loopw [10, 52] (fun qv i wr' => ∃ (j : Nat) (l' : List Nat), j ≤ 2 ∧ i = .int .i64 j ∧ l' = (if j = 0 then l else if j = 1 then addIf l A else addIf (addIf l A) D) ∧ FW w cs B1 qv l' wr' ∧ wr'.heap[T]? = some (.cells #[.int .u64 A, .int .u64 D] 34) ∧ (∀ q, qv.ownBlock = some q → q ≠ T)) (fun _ i _ => 2 - (intOf i).toNat)
      case atStart => exact ⟨0, l, by omega, rfl, rfl, HFC.out, HTM.out, fun q hq => by simp [Value.ownBlock] at hq; omega⟩
      case round =>
        clear HFC HTM
        obtain ⟨j, l', hj, rfl, hl', hf, ht, hqt⟩ := hrel
        have hj3 : j = 0 ∨ j = 1 ∨ j = 2 := by omega
        rcases hj3 with rfl | rfl | rfl
        · rw [if_pos rfl] at hl'
          have HL0 := Lib.hid hl'
          have c0 := cell_of ht (j := 0) rfl
          have HF := Lib.hid hf
          have HT2 := Lib.hid ht
          have HQT := Lib.hid hqt
          have hT1 : T < wr.heap.size := heap_lt ht
          have HBT : Hid (T ≠ B1 + 1) := Lib.hid (by have := HTB.out; omega)
          by_cases hin : A ∈ l'
          · have HIN := Lib.hid hin
            have HL2 : Hid (addIf l' A = l') := Lib.hid (if_pos hin)
            have hnd : l'.Nodup := by rw [hl']; exact HND.out
            have HND2 := Lib.hid hnd
            clear hf ht hqt hin hnd
            go_wp2_with (at_lookup; refine map_lookup_yes rfl _ _ _ rfl key_set Tryd.underlying40 rfl HF.out.m A _ rfl (by rw [trues_keys]; exact HND2.out) (trues_mem HIN.out) ?_)
            go_roundw
            case rel => exact ⟨1, l', by omega, by go_num, by rw [if_neg (by omega), if_pos rfl, ← HL0.out]; exact HL2.out.symm, HF.out, HT2.out, HQT.out⟩
            case measure => simp [intOf]
          · have HIN := Lib.hid hin
            have HL2 : Hid (addIf l' A = l' ++ [A]) := Lib.hid (if_neg hin)
            have HLL : Hid (l'.length ≤ 1000000000) := Lib.hid (by rw [hl']; omega)
            clear hf ht hqt hin
            go_wp2_with (first
              | (at_lookup; refine map_lookup_no rfl _ _ _ rfl key_set Tryd.underlying40 (HZ.out _) rfl HF.out.m A rfl (by rw [trues_keys]; exact HIN.out) ?_)
              | (at_mapUpdate; refine map_update_new rfl _ _ _ rfl key_set Tryd.underlying40 rfl HF.out.m A (.bool true) rfl rfl (by rw [trues_keys]; exact HIN.out) ?_; intro w4 hm4 hg4)
              | (at_builtin; refine append_set rfl _ _ rfl (SCol.other HF.out.q hg4 HF.out.qa (by omega)) rfl A rfl HLL.out ?_; intro v5 w5 hq5 hg5 hat5))
            go_roundw
            case rel => exact ⟨1, l' ++ [A], by omega, by go_num, by rw [if_neg (by omega), if_pos rfl, ← HL0.out]; exact HL2.out.symm, HF.out.push hm4 hg4 hq5 hg5 hat5, HF.out.keep hg4 hg5 HT2.out HBT.out HQT.out, fun q hq e => by
              rcases hat5 with h | h
              · exact HQT.out q (h ▸ hq) e
              · have := h q hq
                have := hg4.size
                omega⟩
            case measure => simp [intOf]
        · rw [if_neg (by omega), if_pos rfl] at hl'
          have HL0 := Lib.hid hl'
          have c0 := cell_of ht (j := 1) rfl
          have HF := Lib.hid hf
          have HT2 := Lib.hid ht
          have HQT := Lib.hid hqt
          have hT1 : T < wr.heap.size := heap_lt ht
          have HBT : Hid (T ≠ B1 + 1) := Lib.hid (by have := HTB.out; omega)
          by_cases hin : D ∈ l'
          · have HIN := Lib.hid hin
            have HL2 : Hid (addIf l' D = l') := Lib.hid (if_pos hin)
            have hnd : l'.Nodup := by rw [hl']; exact addIf_nodup HND.out
            have HND2 := Lib.hid hnd
            clear hf ht hqt hin hnd
            go_wp2_with (at_lookup; refine map_lookup_yes rfl _ _ _ rfl key_set Tryd.underlying40 rfl HF.out.m D _ rfl (by rw [trues_keys]; exact HND2.out) (trues_mem HIN.out) ?_)
            go_roundw
            case rel => exact ⟨2, l', by omega, by go_num, by rw [if_neg (by omega), if_neg (by omega), ← HL0.out]; exact HL2.out.symm, HF.out, HT2.out, HQT.out⟩
            case measure => simp [intOf]
          · have HIN := Lib.hid hin
            have HL2 : Hid (addIf l' D = l' ++ [D]) := Lib.hid (if_neg hin)
            have HLL : Hid (l'.length ≤ 1000000000) := Lib.hid (by rw [hl']; have := HAD.out; omega)
            clear hf ht hqt hin
            go_wp2_with (first
              | (at_lookup; refine map_lookup_no rfl _ _ _ rfl key_set Tryd.underlying40 (HZ.out _) rfl HF.out.m D rfl (by rw [trues_keys]; exact HIN.out) ?_)
              | (at_mapUpdate; refine map_update_new rfl _ _ _ rfl key_set Tryd.underlying40 rfl HF.out.m D (.bool true) rfl rfl (by rw [trues_keys]; exact HIN.out) ?_; intro w4 hm4 hg4)
              | (at_builtin; refine append_set rfl _ _ rfl (SCol.other HF.out.q hg4 HF.out.qa (by omega)) rfl D rfl HLL.out ?_; intro v5 w5 hq5 hg5 hat5))
            go_roundw
            case rel => exact ⟨2, l' ++ [D], by omega, by go_num, by rw [if_neg (by omega), if_neg (by omega), ← HL0.out]; exact HL2.out.symm, HF.out.push hm4 hg4 hq5 hg5 hat5, HF.out.keep hg4 hg5 HT2.out HBT.out HQT.out, fun q hq e => by
              rcases hat5 with h | h
              · exact HQT.out q (h ▸ hq) e
              · have := h q hq
                have := hg4.size
                omega⟩
            case measure => simp [intOf]
        · rw [if_neg (by omega), if_neg (by omega), ← HAT.out] at hl'
          subst hl'
          have HF := Lib.hid hf
          clear hf ht hqt
          go_wp2_with fail
          go_roundw
          case rel => exact ⟨k + 1, _, by go_num, HF.out, HNX.out, HGX.out⟩
          case measure => simp [intOf]; omega
    · have hkn : k = l.length := by omega
      have HL : Hid (l = fourN cs s) := Lib.hid (by rw [← HGO.out]; exact (fourGo_end (by omega)).symm)
      have HQC := Lib.hid hqc
      have HW := Lib.hid hfw.q.below
      have HLT : Hid (∀ j, cell l j < 64) := Lib.hid (fun j => by rw [HL.out]; exact lt64_of hl6 (four_lt HSP.out HC.out HSL.out j))
      have hgB : g < wr.heap.size := heap_lt hqg
      have HQG := Lib.hid hqg
      clear hfw hfi hgo hqg hqmm hqc hkn HFI HGO HFW
      go_wp2_with fail
      go_loopw [14, 69] (fun v i wr' => ∃ j : Nat, j ≤ l.length ∧ i = .int .i64 j ∧ Col w wr' v (ofNats (l.take j)) ∧ wr'.heap[g]? = some (.cells cur 34 (0, 0))) (fun _ i _ => l.length - (intOf i).toNat)
      case atStart => exact ⟨0, by omega, rfl, ⟨World.ownsRow_nil _ _ _ _, HW.out⟩, HQG.out⟩
      case round =>
        clear HQG HW
        obtain ⟨j, hj, rfl, hcol, hg⟩ := hrel
        by_cases hjl : j < l.length
        · have c0 := cell_of hg (HQC.out j hjl)
          have j0 : (0 : Int) ≤ (j : Int) := by omega
          have j1 : (j : Int) < (l.length : Int) := by omega
          have j2 : (j : Int) < (qc : Int) := by omega
          have hc64 := HLT.out j
          have hwc := wrapI (cell l j) (by omega)
          have htk : ofNats (l.take (j + 1)) = ofNats (l.take j) ++ [(cell l j : Int)] := by
            rw [List.take_succ_eq_append_getElem hjl]
            unfold ofNats cell
            rw [List.map_append, List.getD_eq_getElem?_getD, List.getElem?_eq_getElem hjl]; rfl
          have HTK := Lib.hid htk
          have HCOL := Lib.hid hcol
          have HG := Lib.hid hg
          have HLEN : Hid ((ofNats (l.take j)).length ≤ 1000000000) := Lib.hid (by rw [ofNats_len, List.length_take]; omega)
          clear htk hcol hg
          go_wp2_with (at_builtin; refine append_intK rfl _ _ rfl HCOL.out rfl _ rfl HLEN.out ?_; intro v' w' hcol' hne hkeep)
          go_roundw
          case rel => exact ⟨j + 1, by omega, by go_num, by rw [HTK.out]; exact hcol', hkeep g _ HG.out (fun cs fr e => by
            injection e with _ h2 _
            exact absurd h2 (by decide))⟩
          case measure => simp [intOf]; omega
        · have hjn : j = l.length := by omega
          have HJ : Hid (l.take j = fourN cs s) := Lib.hid (by rw [hjn, List.take_length]; exact HL.out)
          rw [HJ.out] at hcol
          obtain ⟨va, vc, rfl, _, _, _⟩ := hcol.reads.open
          clear hjn
          go_wp2_with fail
          go_ret2
          exact ⟨_, rfl, hcol⟩

set_option maxRecDepth 100000 in
theorem Fourteen_no (v : Value) (l : List Int) (code : Int) (w : World) (hr : Reads w v l) (h : (spL l && setB l.length code) = false) (hT : Tab w) :
    Calls Tryd.prog 5 #[v, .int .i64 code] w fun e w' => e = .returned (.tuple #[.slice none 0 0, .int .i64 2]) ∧ Below w.heap.size w w' := by
  have hr0 := hr
  obtain ⟨a, cap, rfl, _, _, _⟩ := hr.open
  clear hr
  go_enter Tryd.func5, Tryd.ntmps5
  go_wp2_with fail
  refine (both_no _ l code _ hr0 h hT).mono ?_
  rintro e w1 ⟨n, c, u, rfl, hb1⟩
  obtain ⟨hs1, hb2⟩ := lay_sp hb1 n c
  go_wp2_with fail
  go_ret2
  exact ⟨rfl, hb2⟩
end Go.Proofs.YtppmgbjdbnedoalDoor

/- Pieces of a list that is no space. -/
set_option linter.unusedVariables false
set_option linter.unusedSimpArgs false
namespace Go.Proofs.YtppmgbjdbnedoalDoor
open Go.RowKit

set_option maxRecDepth 100000 in
set_option maxHeartbeats 1600000 in
theorem Pieces_no (v : Value) (l : List Int) (code : Int) (w : World) (hr : Reads w v l) (h : (spL l && setB l.length code) = false) (hT : Tab w) :
    Calls Tryd.prog 6 #[v, .int .i64 code] w fun e w' => e = .returned (.tuple #[.slice none 0 0, .int .i64 2]) ∧ Below w.heap.size w w' := by
  have hr0 := hr
  obtain ⟨a, cap, rfl, _, _, _⟩ := hr.open
  clear hr
  go_enter Tryd.func6, Tryd.ntmps6
  go_wp2_with fail
  refine (both_no _ l code _ hr0 h hT).mono ?_
  rintro e w1 ⟨n, c, u, rfl, hb1⟩
  obtain ⟨hs1, hb2⟩ := lay_sp hb1 n c
  go_wp2_with fail
  go_ret2
  exact ⟨rfl, hb2.alloc hb2.size _⟩
end Go.Proofs.YtppmgbjdbnedoalDoor

/- ply's reference: Closure. -/
set_option linter.unusedVariables false
set_option linter.unusedSimpArgs false
namespace Go.Proofs.YtppmgbjdbnedoalDoor
open Go.RowKit

theorem meet_take (n s : Nat) (L : List Nat) (b k : Nat) (hk : k < L.length) : meetAll n s (L.take (k + 1)) b = if subB s (otherN n (cell L k)) = true then meetAll n s (L.take k) b &&& otherN n (cell L k) else meetAll n s (L.take k) b := by
  unfold meetAll cell
  rw [List.take_succ_eq_append_getElem hk, List.foldl_append, List.foldl_cons, List.foldl_nil, List.getD_eq_getElem?_getD, List.getElem?_eq_getElem hk]
  rfl
theorem opens_in {cs : List Nat} (k : Nat) : cell (opensN cs) k < 2 ^ cs.length := by
  unfold cell
  rw [List.getD_eq_getElem?_getD]
  by_cases hk : k < (opensN cs).length
  · rw [List.getElem?_eq_getElem hk]
    have hm : (opensN cs)[k] ∈ opensN cs := List.getElem_mem hk
    unfold opensN at hm
    rw [List.mem_filter, List.mem_range] at hm
    exact hm.1
  · rw [List.getElem?_eq_none (by omega)]; exact Nat.two_pow_pos _
theorem and_lt64 {a : Nat} (b : Nat) (h : a < 64) : a &&& b < 64 := Nat.lt_of_le_of_lt Nat.and_le_left h
set_option maxRecDepth 100000 in
set_option maxHeartbeats 1600000 in
theorem refClosure_any (v : Value) (cs : List Nat) (s : Nat) (w : World) (hr : Reads w v (ofNats cs)) (hc : Codes cs) (hsp : spaceB cs = true) (hs : s < 2 ^ cs.length) :
    Calls Tryd.prog 25 #[v, .int .i64 s] w fun e w' => e = .returned (.int .i64 (closureN cs s : Nat)) ∧ Below w.heap.size w w' := by
  have hs64 : s < 64 := Nat.lt_of_lt_of_le hs (Nat.pow_le_pow_right (n := 2) (by omega) hc.2.1)
  have HO := Lib.hid (fun k => opens_in (cs := cs) k)
  have HI := Lib.hid (refClosure_eq hsp hc hs)
  have HC := Lib.hid hc
  have hl6 := hc.2.1
  have hr0 := hr
  obtain ⟨a, cap, rfl, _, _, _⟩ := hr.open
  have hn0 := ofNats_len cs
  have hother : ∀ (w1 : World) (x : Nat), Below w.heap.size w w1 → x < 2 ^ cs.length → Calls Tryd.prog 26 #[.slice a (ofNats cs).length cap, .int .i64 x] w1 fun e w' => e = .returned (.int .i64 (otherN cs.length x : Nat)) ∧ w1 = w' := fun w1 x hb hx => by
    have := refOther_any _ (ofNats cs) x w1 (hr0.below hb) (by rw [hn0]; exact hl6) (by rw [hn0]; exact hx)
    rw [hn0] at this ⊢
    exact this
  have HOT := Lib.hid hother
  have hR := Lib.hid (hr0.below (Below.refl w.heap.size w))
  rw [hn0] at HOT hR ⊢
  have hall : wrap64 (wrap64 ((2 : Int) ^ cs.length) - 1) = (allN cs.length : Nat) := by
    have h : cs.length = 0 ∨ cs.length = 1 ∨ cs.length = 2 ∨ cs.length = 3 ∨ cs.length = 4 ∨ cs.length = 5 ∨ cs.length = 6 := by omega
    rcases h with h | h | h | h | h | h | h <;> (rw [h]; simp [wrap64, allN])
  have hall64 : allN cs.length < 64 := Nat.lt_of_lt_of_le (all_lt _) (Nat.pow_le_pow_right (n := 2) (by omega) hl6)
  have HALL := Lib.hid hall
  have hot64 : ∀ x, otherN cs.length x < 64 := fun x => Nat.lt_of_lt_of_le (other_lt _ _) (Nat.pow_le_pow_right (n := 2) (by omega) hl6)
  have HOT64 := Lib.hid hot64
  obtain ⟨A, hA⟩ : ∃ A, allN cs.length = A := ⟨_, rfl⟩
  rw [hA] at HI HALL hall64
  have hall2 := HALL.out
  have HA := Lib.hid hA
  clear hA
  generalize hn : cs.length = n at *
  clear hr hother hn0 hall hot64
  go_enter Tryd.func25, Tryd.ntmps25
  go_wp2_with fail
  refine (refOpens_any _ cs _ hR.out hc).mono ?_
  rintro e w1 ⟨v1, rfl, hcol⟩
  have hb1 := hcol.below
  obtain ⟨b, cap1, rfl, g1, g2, hcell⟩ := hcol.reads.open
  have hlen := ofNats_len (opensN cs)
  rw [hlen] at hcell g1 ⊢
  generalize opensN cs = L at *
  obtain ⟨m, hm⟩ : ∃ m, L.length = m := ⟨_, rfl⟩
  have hmm : m ≤ 9223372036854775807 := by unfold maxLen at g2; omega
  rw [hm] at hcell g1 ⊢
  have HM := Lib.hid hm
  clear hcol hlen hm g2 hc hsp
  go_wp2_with fail
  go_loop [5, 7] (fun best i => ∃ k b : Nat, k ≤ m ∧ i = .int .i64 k ∧ best = .int .i64 b ∧ b < 64 ∧ meetAll n s (L.take k) A = b) (fun _ i => m - (intOf i).toNat)
  case atStart => exact ⟨0, A, by omega, rfl, rfl, hall64, rfl⟩
  case round =>
    obtain ⟨k, best, hk, rfl, rfl, hb64, hj⟩ := hrel
    have HJ := Lib.hid hj
    clear hj
    by_cases hlt : k < m
    · obtain ⟨b, off, rfl, hb, hck⟩ := hcell k hlt
      rw [gi_nats] at hck
      have hjt := meet_take n s L A k (by rw [HM.out]; exact hlt)
      have hcn := HO.out k
      have hc64 := HOT64.out (cell L k)
      have hcall := HOT.out w1 (cell L k) hb1 hcn
      generalize cell L k = c at *
      generalize otherN n c = oc at *
      have k0 : (0 : Int) ≤ (k : Int) := by omega
      have k1 : (k : Int) < (m : Int) := by omega
      have hor := i64_and best oc (by omega) (by omega)
      have HOR := Lib.hid (and_lt64 oc hb64)
      have HCALL := Lib.hid hcall
      clear hcell hcall
      rcases hsub : subB s oc with _ | _
      · rw [hsub] at hjt
        have HJT := Lib.hid hjt
        have HS := Lib.hid hsub
        clear hjt hsub
        go_wp2_with fail
        refine HCALL.out.mono ?_
        rintro e w' ⟨rfl, rfl⟩
        go_wp2_with fail
        refine (refWithin_any s oc _ hs64 hc64).mono ?_
        rintro e w' ⟨rfl, rfl⟩
        rw [HS.out]
        go_wp2_with fail
        refine ⟨⟨k + 1, best, by omega, by go_num, rfl, hb64, by rw [HJT.out]; exact HJ.out⟩, by simp [intOf]; omega⟩
      · rw [hsub, if_pos rfl] at hjt
        have HJT := Lib.hid hjt
        have HS := Lib.hid hsub
        clear hjt hsub
        go_wp2_with fail
        refine HCALL.out.mono ?_
        rintro e w' ⟨rfl, rfl⟩
        go_wp2_with fail
        refine (refWithin_any s oc _ hs64 hc64).mono ?_
        rintro e w' ⟨rfl, rfl⟩
        rw [HS.out]
        go_wp2_with fail
        refine HCALL.out.mono ?_
        rintro e w' ⟨rfl, rfl⟩
        go_wp2_with fail
        refine ⟨⟨k + 1, best &&& oc, by omega, by go_num, rfl, HOR.out, by rw [HJT.out, HJ.out]⟩, by simp [intOf]; omega⟩
    · obtain rfl : k = m := by omega
      have HT : Hid (best = closureN cs s) := Lib.hid (by rw [← HJ.out, ← HI.out, ← HM.out, List.take_length])
      clear hcell
      go_wp2_with fail
      go_ret
      exact ⟨by rw [HT.out]; rfl, hb1⟩
end Go.Proofs.YtppmgbjdbnedoalDoor

/- An append of an int that tells where the new slice lies. -/
set_option linter.unusedVariables false
set_option linter.unusedSimpArgs false
namespace Go.Proofs.YtppmgbjdbnedoalDoor
open Go.RowKit

theorem append_intL {ops : Array Oper} {rest : List Oper} {o : Oper} {a : Act} {w0 w : World} {Q : Exit → Act → World → Prop} (hgd : o.guard = none) (s x : Operand)
    (ho : o.op = .call { callee := .builtin .append, args := #[s, x], argTypes := #[22, 22] }) {v : Value} {xs : List Int} (hc : Col w0 w v xs) (hs : a.eval s = v)
    (y : Int) (hx : a.eval x = .slice (some ⟨w.heap.size, 0, none⟩) 1 1) (hlen : xs.length ≤ 1000000000)
    (h : ∀ v' w', Col w0 w' v' (xs ++ [y]) → w.grownBy w' v.ownBlock → (v'.ownBlock = v.ownBlock ∨ ∀ k, v'.ownBlock = some k → w.heap.size ≤ k) → wpList Tryd.prog ops Q rest (a.put o.dst v') w') : wpList Tryd.prog ops Q (o :: rest) a (w.alloc (.cells #[.int .i64 y] 3)) := by
  obtain ⟨i0, hi, hz0, hz1, hz2⟩ := info_parts infoInt
  refine wpList_append_own_at _ hgd s x 22 ho w0.heap.size 3 i0 (.int .i64 0) 1 8 Tryd.underlying22 hi hz0 hz1 hz2 rfl (by decide) v xs.length (xs.map (Value.int .i64)) hs (hc.own.alloc _) ⟨w.heap.size, 0, none⟩ 1 1 [.int .i64 y] hx rfl (cell_one_new _ _ _) (by simp [Value.oneCell']) (by simp only [maxLen]; omega) (by omega) (by have := hc.below.size; simp; omega) ?_
  intro v' w' hown' hgrow hnil hat
  refine h v' w' ⟨by simpa using hown', ?_⟩ ⟨hgrow.os, hgrow.tape, hgrow.output, by have := hgrow.size; simp at this; omega, fun k hk hne => (hgrow.block k (by simp; omega) hne).trans (heap_alloc_lt _ _ _ hk)⟩ ?_
  · refine (hc.below.alloc hc.below.size _).grown hgrow (by have := hc.below.size; simp; omega) ?_
    intro k hk
    exact (World.ownsRow.lt (hc.own.alloc (.cells #[.int .i64 y] 3)) k hk.symm.symm).1
  · rcases hat with e | e
    · exact .inl e
    · refine .inr fun k hk => ?_
      rw [e] at hk
      have := Option.some.inj hk
      simp at this; omega
end Go.Proofs.YtppmgbjdbnedoalDoor

/- ply's reference: Fourteen. -/
set_option linter.unusedVariables false
set_option linter.unusedSimpArgs false
namespace Go.Proofs.YtppmgbjdbnedoalDoor
open Go.RowKit

/-- is a number among the first ones -/
def amongTo (l : List Nat) (t k : Nat) : Bool := decide (t ∈ l.take k)
theorem amongTo_next {l : List Nat} {t k : Nat} (hk : k < l.length) : amongTo l t (k + 1) = (amongTo l t k || decide (cell l k = t)) := by
  unfold amongTo
  have e : cell l k = l[k] := by unfold cell; rw [List.getD_eq_getElem?_getD, List.getElem?_eq_getElem hk]; rfl
  rw [List.take_succ_eq_append_getElem hk, e, Bool.eq_iff_iff, Bool.or_eq_true, decide_eq_true_eq, decide_eq_true_eq, decide_eq_true_eq, List.mem_append, List.mem_singleton]
  exact or_congr Iff.rfl eq_comm
theorem amongTo_all {l : List Nat} {t : Nat} : amongTo l t l.length = decide (t ∈ l) := by unfold amongTo; rw [List.take_length]
theorem addIf_of {l : List Nat} {t : Nat} : addIf l t = if decide (t ∈ l) = true then l else l ++ [t] := by unfold addIf; by_cases h : t ∈ l <;> simp [h]

set_option maxRecDepth 100000 in
set_option maxHeartbeats 3200000 in
theorem refFourteen_any (v : Value) (cs : List Nat) (s : Nat) (w : World) (hr : Reads w v (ofNats cs)) (hc : Codes cs) (hsp : spaceB cs = true) (hs : s < 2 ^ cs.length) :
    Calls Tryd.prog 11 #[v, .int .i64 s] w fun e w' => ∃ v', e = .returned v' ∧ Col w w' v' (ofNats (fourN cs s)) := by
  have hr0 := hr
  obtain ⟨a, cap, rfl, _, _, _⟩ := hr.open
  rw [ofNats_len] at hr0 ⊢
  have hl6 := hc.2.1
  have HR := Lib.hid hr0
  have HC := Lib.hid hc
  have HSP := Lib.hid hsp
  have HSL := Lib.hid hs
  have hcol0 : Col w (w.alloc (.cells #[.int .i64 s] 3)) (.slice (some ⟨w.heap.size, 0, none⟩) 1 1) (ofNats [s]) :=
    ⟨⟨rfl, .inr ⟨w.heap.size, 1, #[.int .i64 s], rfl, Nat.le_refl _, heap_alloc_new _ _, Nat.le_refl _, by simp [maxLen], rfl, rfl⟩⟩, (Below.refl _ _).alloc (Nat.le_refl _) _⟩
  have HCOL0 := Lib.hid hcol0
  clear hr hr0 hc hsp hs hcol0
  go_enter Tryd.func11, Tryd.ntmps11
  go_wp2_with fail
  go_loopw [5, 6] (fun qv i wr => ∃ (k : Nat) (l : List Nat), i = .int .i64 k ∧ Col w wr qv (ofNats l) ∧ FourI cs s k l ∧ fourGo cs (15 - k) k l = fourN cs s) (fun _ i _ => 15 - (intOf i).toNat)
  case atStart => exact ⟨0, [s], rfl, HCOL0.out, FourI.start cs s, rfl⟩
  case round =>
    clear HCOL0
    obtain ⟨k, l, rfl, hcol, hfi, hgo⟩ := hrel
    have hl14 := hfi.few
    have hkl := hfi.le
    have hl0 : 0 < l.length := hfi.one.length_le
    have rl := hcol.reads
    obtain ⟨qa, qc, rfl, hq1, hqm, _⟩ := rl.open
    rw [ofNats_len] at rl hq1 ⊢
    have hcol2 := hcol
    rw [ofNats_len] at hcol2
    have hqcm : qc ≤ 9223372036854775807 := by unfold maxLen at hqm; omega
    have HCOL := Lib.hid hcol2
    have HRL := Lib.hid rl
    have HFI := Lib.hid hfi
    have HGO := Lib.hid hgo
    by_cases hlt : k < l.length
    · have k0 : (0 : Int) ≤ (k : Int) := by omega
      have k1 : (k : Int) < (l.length : Int) := by omega
      have k2 : (k : Int) < (qc : Int) := by omega
      obtain ⟨g, o, hqa, hgw, hck⟩ := rl.at.2 k hlt
      subst hqa
      have hxl : cell l k < 2 ^ cs.length := fourteen_lt HSL.out _ (hfi.among _ (cell_mem hlt))
      have hx64 : cell l k < 64 := Nat.lt_of_lt_of_le hxl (Nat.pow_le_pow_right (n := 2) (by omega) hl6)
      obtain ⟨x, hx⟩ : ∃ x, cell l k = x := ⟨_, rfl⟩
      have HX := Lib.hid hx
      rw [hx] at hck hx64 hxl
      have HXX := Lib.hid hxl
      have HCK := Lib.hid hck
      have HNX : Hid (FourI cs s (k + 1) (addTwo cs l x)) := Lib.hid (by have := HFI.out.next HSP.out HC.out HSL.out hlt; rwa [HX.out] at this)
      have HGX : Hid (fourGo cs (15 - (k + 1)) (k + 1) (addTwo cs l x) = fourN cs s) := Lib.hid (by
        have := fourGo_next (cs := cs) (k := 14 - k) hlt
        rw [show 14 - k + 1 = 15 - k by omega, HGO.out, HX.out] at this
        rw [show 15 - (k + 1) = 14 - k by omega]; exact this.symm)
      have HAD : Hid ((addIf l (closureN cs x)).length ≤ 100) := Lib.hid (by have := (addIf_pre (addIf l (closureN cs x)) (otherN cs.length x)).length_le; have := HNX.out.few; unfold addTwo at this; omega)
      have HREF : Hid (∀ W, Below wr.heap.size wr W → Calls Tryd.prog 25 #[.slice a cs.length cap, .int .i64 x] W fun e w' => e = .returned (.int .i64 (closureN cs x : Nat)) ∧ Below W.heap.size W w') := Lib.hid (fun W hW => refClosure_any _ cs x W ((HR.out.below (HCOL.out.below)).below hW) HC.out HSP.out HXX.out)
      have HOTH : Hid (∀ W, Below wr.heap.size wr W → Calls Tryd.prog 26 #[.slice a cs.length cap, .int .i64 x] W fun e w' => e = .returned (.int .i64 (otherN cs.length x : Nat)) ∧ W = w') := Lib.hid (fun W hW => by
        have := refOther_any _ (ofNats cs) x W ((HR.out.below (HCOL.out.below)).below hW) (by rw [ofNats_len]; exact hl6) (by rw [ofNats_len]; exact HXX.out)
        rw [ofNats_len] at this
        exact this)
      clear hcol hcol2 hfi hgo hxl hx rl hqm
      go_wp2_with fail
      go_region_held3 (fun w' => w'.cell? ⟨g, o + k, none⟩ = some (.int .i64 x))
        (first | go_keep | (rw [((Below.refl _ _).drew.trans hbA).cell (p := ⟨g, o + k, none⟩) hgw]; exact HCK.out))
        (first
          | (go_at_call 25; refine (HREF.out _ (Below.refl _ _).drew).mono ?_; rintro e wA ⟨rfl, hbA⟩)
          | (go_at_call 26; refine (HOTH.out _ ((Below.refl _ _).drew.trans hbA)).mono ?_; rintro e wB ⟨rfl, rfl⟩))
      have hbA2 : Below wr.heap.size wr wA := (Below.refl _ _).drew.trans hbA
      have hcB := HCOL.out.step hbA2
      have hgT : g < wA.heap.size := by have := hbA2.size; omega
      have hrowg : ∀ q, Value.ownBlock (.slice (some ⟨g, o, none⟩) l.length qc) = some q → q < wA.heap.size := fun q hq => (World.ownsRow.lt hcB.own q hq).2
      have hcC : Col w (wA.alloc (.cells #[.int .i64 (closureN cs x : Nat), .int .i64 (otherN cs.length x : Nat)] 3)) (.slice (some ⟨g, o, none⟩) l.length qc) (ofNats l) := hcB.step ((Below.refl _ _).alloc (Nat.le_refl _) _)
      have htm : (wA.alloc (.cells #[.int .i64 (closureN cs x : Nat), .int .i64 (otherN cs.length x : Nat)] 3)).heap[wA.heap.size]? = some (.cells #[.int .i64 (closureN cs x : Nat), .int .i64 (otherN cs.length x : Nat)] 3) := heap_alloc_new _ _
      have HND := Lib.hid HFI.out.nodup
      generalize hWC : World.alloc wA _ = WC at *
      generalize hTT : wA.heap.size = T at *
      obtain ⟨A, hA⟩ : ∃ A, closureN cs x = A := ⟨_, rfl⟩
      obtain ⟨D, hD⟩ : ∃ D, otherN cs.length x = D := ⟨_, rfl⟩
      have HAT : Hid (addTwo cs l x = addIf (addIf l A) D) := Lib.hid (by unfold addTwo; rw [hA, hD])
      rw [hA, hD] at htm
      rw [hA] at HAD
      rw [hA, hD]
      have HTM := Lib.hid htm
      have HCC := Lib.hid hcC
      have HRG := Lib.hid hrowg
      clear hWC hTT hA hD hbA hcB hcC htm hrowg hbA2 HREF HOTH hck
      go_wp2_with fail
      go_loopw [5, 8] (fun qv i wr' => ∃ (j : Nat) (l' : List Nat), j ≤ 2 ∧ i = .int .i64 j ∧ l' = (if j = 0 then l else if j = 1 then addIf l A else addIf (addIf l A) D) ∧ Col w wr' qv (ofNats l') ∧ wr'.heap[T]? = some (.cells #[.int .i64 A, .int .i64 D] 3) ∧ (∀ q, qv.ownBlock = some q → q ≠ T)) (fun _ i _ => 2 - (intOf i).toNat)
      case atStart => exact ⟨0, l, by omega, rfl, rfl, HCC.out, HTM.out, fun q hq e => by have := HRG.out q hq; omega⟩
      case round =>
        clear HCC HTM
        obtain ⟨j, l', hj, rfl, hl', hcol, ht, hqt⟩ := hrel
        have hj3 : j = 0 ∨ j = 1 ∨ j = 2 := by omega
        rcases hj3 with rfl | rfl | rfl
        · rw [if_pos rfl] at hl'
          have HL0 := Lib.hid hl'
          have c0 := cell_of ht (j := 0) rfl
          have HLL : Hid (l'.length ≤ 100) := Lib.hid (by rw [hl']; omega)
          have rl := hcol.reads
          obtain ⟨qa', qc', rfl, _, hqm', _⟩ := rl.open
          rw [ofNats_len] at rl ⊢
          have hll := HLL.out
          have HCOL2 := Lib.hid hcol
          have HT2 := Lib.hid ht
          have HQT := Lib.hid hqt
          have hT1 : T < wr.heap.size := heap_lt ht
          have HRL2 := Lib.hid rl.at.2
          clear hcol ht rl hqm' hqt hl'
          go_wp2_with fail
          go_loopw [9, 10] (fun f i wr4 => ∃ p m : Nat, p ≤ l'.length ∧ i = .int .i64 p ∧ f = .bool (amongTo l' A p) ∧ wr4 = wr.drewN m) (fun _ i _ => l'.length - (intOf i).toNat)
          case atStart => exact ⟨0, 0, by omega, rfl, rfl, rfl⟩
          case round =>
            obtain ⟨p, m, hp, rfl, rfl, rfl⟩ := hrel
            by_cases hpl : p < l'.length
            · have p0 : (0 : Int) ≤ (p : Int) := by omega
              have p1 : (p : Int) < (l'.length : Int) := by omega
              obtain ⟨g3, o3, he3, _, hc3⟩ := HRL2.out p hpl
              subst he3
              have hnx := amongTo_next (t := A) hpl
              rcases hf : amongTo l' A p with _ | _
              · rw [hf, Bool.false_or] at hnx
                by_cases he : cell l' p = A
                · rw [decide_eq_true he] at hnx
                  have he2 : (cell l' p : Int) = (A : Int) := by omega
                  have he3 : ((cell l' p : Int) == (A : Int)) = true := by rw [beq_iff_eq]; exact he2
                  have HE3 := Lib.hid he3
                  have HN := Lib.hid hnx
                  clear hnx hf he
                  go_wp2_with fail
                  refine wp_region_quiet_lit (by kernel_rfl) (by kernel_rfl) ?_
                  repeat (go_big_quiet_step (fail))
                  refine wpQuiet_nil ?_
                  intro _ hw'
                  obtain ⟨nq, hw''⟩ := hw'
                  subst hw''
                  go_wp2_with fail
                  go_roundw
                  case rel => exact ⟨p + 1, _, by omega, by go_num, by first | (rw [HN.out]; done) | (rw [HN.out, HE3.out]; done), by first | rfl | exact World.drewN_drewN ..⟩
                  case measure => simp [intOf]; omega
                · rw [decide_eq_false he] at hnx
                  have he2 : ¬ (cell l' p : Int) = (A : Int) := by omega
                  have he3 : ((cell l' p : Int) == (A : Int)) = false := by rw [beq_eq_false_iff_ne]; exact he2
                  have HE3 := Lib.hid he3
                  have HN := Lib.hid hnx
                  clear hnx hf he
                  go_wp2_with fail
                  refine wp_region_quiet_lit (by kernel_rfl) (by kernel_rfl) ?_
                  repeat (go_big_quiet_step (fail))
                  refine wpQuiet_nil ?_
                  intro _ hw'
                  obtain ⟨nq, hw''⟩ := hw'
                  subst hw''
                  go_wp2_with fail
                  go_roundw
                  case rel => exact ⟨p + 1, _, by omega, by go_num, by first | (rw [HN.out]; done) | (rw [HN.out, HE3.out]; done), by first | rfl | exact World.drewN_drewN ..⟩
                  case measure => simp [intOf]; omega
              · rw [hf, Bool.true_or] at hnx
                have HN := Lib.hid hnx
                clear hnx hf
                go_wp2_with fail
                refine wp_region_quiet_lit (by kernel_rfl) (by kernel_rfl) ?_
                repeat (go_big_quiet_step (fail))
                refine wpQuiet_nil ?_
                intro _ hw'
                obtain ⟨nq, hw''⟩ := hw'
                subst hw''
                go_wp2_with fail
                go_roundw
                case rel => exact ⟨p + 1, _, by omega, by go_num, by first | (rw [HN.out]; done) | (rw [HN.out, HE3.out]; done), by first | rfl | exact World.drewN_drewN ..⟩
                case measure => simp [intOf]; omega
            · have hpn : p = l'.length := by omega
              have HF : Hid (amongTo l' A p = decide (A ∈ l')) := Lib.hid (by rw [hpn]; exact amongTo_all)
              have HCOL3 : Hid (Col w (wr.drewN m) (.slice qa' l'.length qc') (ofNats l')) := Lib.hid (by have := HCOL2.out; rw [ofNats_len] at this; exact this.step (below_drewN _ m))
              have HT3 : Hid ((wr.drewN m).heap[T]? = some (.cells #[.int .i64 A, .int .i64 D] 3)) := Lib.hid ((heap_drewN _ _ _).trans HT2.out)
              have hT3 : T < (wr.drewN m).heap.size := by rw [size_drewN]; exact hT1
              have c3 := cell_of HT3.out (j := 0) rfl
              have hsz := HCOL3.out.below.size
              rw [HF.out]
              generalize hWd : World.drewN _ m = Wd at *
              clear hWd hpn
              by_cases hin : A ∈ l'
              · have HL2 : Hid (addIf l' A = l') := Lib.hid (if_pos hin)
                rw [decide_eq_true hin]
                clear hin
                go_wp2_with fail
                go_roundw
                case rel => exact ⟨1, l', by omega, by go_num, by rw [if_neg (by omega), if_pos rfl, ← HL0.out]; exact HL2.out.symm, HCOL3.out, HT3.out, by have := HQT.out; rwa [ofNats_len] at this⟩
                case measure => simp [intOf]
              · have HL2 : Hid (addIf l' A = l' ++ [A]) := Lib.hid (if_neg hin)
                have HLN : Hid ((ofNats l').length ≤ 1000000000) := Lib.hid (by rw [ofNats_len]; omega)
                rw [decide_eq_false hin]
                clear hin
                go_wp2_with (at_builtin; refine append_intL rfl _ _ rfl HCOL3.out rfl _ rfl HLN.out ?_; intro v5 w5 hcol5 hg5 hat5)
                go_roundw
                case rel => exact ⟨1, l' ++ [A], by omega, by go_num, by rw [if_neg (by omega), if_pos rfl, ← HL0.out]; exact HL2.out.symm, by simpa [ofNats] using hcol5, (hg5.block T hT3 (fun e => by have := HQT.out T (by rw [ofNats_len]; exact e.symm); omega)).trans HT3.out, fun q hq e => by
                  rcases hat5 with h | h
                  · exact HQT.out q (by rw [ofNats_len]; exact h ▸ hq) e
                  · have := h q hq
                    omega⟩
                case measure => simp [intOf]
        · rw [if_neg (by omega), if_pos rfl] at hl'
          have HL0 := Lib.hid hl'
          have c0 := cell_of ht (j := 1) rfl
          have HLL : Hid (l'.length ≤ 100) := Lib.hid (by rw [hl']; have := HAD.out; omega)
          have rl := hcol.reads
          obtain ⟨qa', qc', rfl, _, hqm', _⟩ := rl.open
          rw [ofNats_len] at rl ⊢
          have hll := HLL.out
          have HCOL2 := Lib.hid hcol
          have HT2 := Lib.hid ht
          have HQT := Lib.hid hqt
          have hT1 : T < wr.heap.size := heap_lt ht
          have HRL2 := Lib.hid rl.at.2
          clear hcol ht rl hqm' hqt hl'
          go_wp2_with fail
          go_loopw [9, 10] (fun f i wr4 => ∃ p m : Nat, p ≤ l'.length ∧ i = .int .i64 p ∧ f = .bool (amongTo l' D p) ∧ wr4 = wr.drewN m) (fun _ i _ => l'.length - (intOf i).toNat)
          case atStart => exact ⟨0, 0, by omega, rfl, rfl, rfl⟩
          case round =>
            obtain ⟨p, m, hp, rfl, rfl, rfl⟩ := hrel
            by_cases hpl : p < l'.length
            · have p0 : (0 : Int) ≤ (p : Int) := by omega
              have p1 : (p : Int) < (l'.length : Int) := by omega
              obtain ⟨g3, o3, he3, _, hc3⟩ := HRL2.out p hpl
              subst he3
              have hnx := amongTo_next (t := D) hpl
              rcases hf : amongTo l' D p with _ | _
              · rw [hf, Bool.false_or] at hnx
                by_cases he : cell l' p = D
                · rw [decide_eq_true he] at hnx
                  have he2 : (cell l' p : Int) = (D : Int) := by omega
                  have he3 : ((cell l' p : Int) == (D : Int)) = true := by rw [beq_iff_eq]; exact he2
                  have HE3 := Lib.hid he3
                  have HN := Lib.hid hnx
                  clear hnx hf he
                  go_wp2_with fail
                  refine wp_region_quiet_lit (by kernel_rfl) (by kernel_rfl) ?_
                  repeat (go_big_quiet_step (fail))
                  refine wpQuiet_nil ?_
                  intro _ hw'
                  obtain ⟨nq, hw''⟩ := hw'
                  subst hw''
                  go_wp2_with fail
                  go_roundw
                  case rel => exact ⟨p + 1, _, by omega, by go_num, by first | (rw [HN.out]; done) | (rw [HN.out, HE3.out]; done), by first | rfl | exact World.drewN_drewN ..⟩
                  case measure => simp [intOf]; omega
                · rw [decide_eq_false he] at hnx
                  have he2 : ¬ (cell l' p : Int) = (D : Int) := by omega
                  have he3 : ((cell l' p : Int) == (D : Int)) = false := by rw [beq_eq_false_iff_ne]; exact he2
                  have HE3 := Lib.hid he3
                  have HN := Lib.hid hnx
                  clear hnx hf he
                  go_wp2_with fail
                  refine wp_region_quiet_lit (by kernel_rfl) (by kernel_rfl) ?_
                  repeat (go_big_quiet_step (fail))
                  refine wpQuiet_nil ?_
                  intro _ hw'
                  obtain ⟨nq, hw''⟩ := hw'
                  subst hw''
                  go_wp2_with fail
                  go_roundw
                  case rel => exact ⟨p + 1, _, by omega, by go_num, by first | (rw [HN.out]; done) | (rw [HN.out, HE3.out]; done), by first | rfl | exact World.drewN_drewN ..⟩
                  case measure => simp [intOf]; omega
              · rw [hf, Bool.true_or] at hnx
                have HN := Lib.hid hnx
                clear hnx hf
                go_wp2_with fail
                refine wp_region_quiet_lit (by kernel_rfl) (by kernel_rfl) ?_
                repeat (go_big_quiet_step (fail))
                refine wpQuiet_nil ?_
                intro _ hw'
                obtain ⟨nq, hw''⟩ := hw'
                subst hw''
                go_wp2_with fail
                go_roundw
                case rel => exact ⟨p + 1, _, by omega, by go_num, by first | (rw [HN.out]; done) | (rw [HN.out, HE3.out]; done), by first | rfl | exact World.drewN_drewN ..⟩
                case measure => simp [intOf]; omega
            · have hpn : p = l'.length := by omega
              have HF : Hid (amongTo l' D p = decide (D ∈ l')) := Lib.hid (by rw [hpn]; exact amongTo_all)
              have HCOL3 : Hid (Col w (wr.drewN m) (.slice qa' l'.length qc') (ofNats l')) := Lib.hid (by have := HCOL2.out; rw [ofNats_len] at this; exact this.step (below_drewN _ m))
              have HT3 : Hid ((wr.drewN m).heap[T]? = some (.cells #[.int .i64 A, .int .i64 D] 3)) := Lib.hid ((heap_drewN _ _ _).trans HT2.out)
              have hT3 : T < (wr.drewN m).heap.size := by rw [size_drewN]; exact hT1
              have c3 := cell_of HT3.out (j := 1) rfl
              have hsz := HCOL3.out.below.size
              rw [HF.out]
              generalize hWd : World.drewN _ m = Wd at *
              clear hWd hpn
              by_cases hin : D ∈ l'
              · have HL2 : Hid (addIf l' D = l') := Lib.hid (if_pos hin)
                rw [decide_eq_true hin]
                clear hin
                go_wp2_with fail
                go_roundw
                case rel => exact ⟨2, l', by omega, by go_num, by rw [if_neg (by omega), if_neg (by omega), ← HL0.out]; exact HL2.out.symm, HCOL3.out, HT3.out, by have := HQT.out; rwa [ofNats_len] at this⟩
                case measure => simp [intOf]
              · have HL2 : Hid (addIf l' D = l' ++ [D]) := Lib.hid (if_neg hin)
                have HLN : Hid ((ofNats l').length ≤ 1000000000) := Lib.hid (by rw [ofNats_len]; omega)
                rw [decide_eq_false hin]
                clear hin
                go_wp2_with (at_builtin; refine append_intL rfl _ _ rfl HCOL3.out rfl _ rfl HLN.out ?_; intro v5 w5 hcol5 hg5 hat5)
                go_roundw
                case rel => exact ⟨2, l' ++ [D], by omega, by go_num, by rw [if_neg (by omega), if_neg (by omega), ← HL0.out]; exact HL2.out.symm, by simpa [ofNats] using hcol5, (hg5.block T hT3 (fun e => by have := HQT.out T (by rw [ofNats_len]; exact e.symm); omega)).trans HT3.out, fun q hq e => by
                  rcases hat5 with h | h
                  · exact HQT.out q (by rw [ofNats_len]; exact h ▸ hq) e
                  · have := h q hq
                    omega⟩
                case measure => simp [intOf]
        · rw [if_neg (by omega), if_neg (by omega), ← HAT.out] at hl'
          subst hl'
          have HCOL3 := Lib.hid hcol
          clear hcol ht hqt
          go_wp2_with fail
          go_roundw
          case rel => exact ⟨k + 1, _, by go_num, HCOL3.out, HNX.out, HGX.out⟩
          case measure => simp [intOf]; omega
    · have hkn : k = l.length := by omega
      have HL : Hid (l = fourN cs s) := Lib.hid (by rw [← HGO.out]; exact (fourGo_end (by omega)).symm)
      clear hkn
      go_wp2_with fail
      go_ret
      exact ⟨_, rfl, by rw [← HL.out]; exact HCOL.out⟩
end Go.Proofs.YtppmgbjdbnedoalDoor

/- The pieces of a set, by their index (PlyJoined). -/
set_option linter.unusedVariables false
namespace Go.Proofs.YtppmgbjdbnedoalDoor
open Go.RowKit

/-- what is left after i pieces -/
def leftTo (cs : List Nat) (s : Nat) : Nat → Nat
  | 0 => s
  | i + 1 => diff (leftTo cs s i) (pieceN cs s (lowN (leftTo cs s i)))
def tookTo (cs : List Nat) (s i : Nat) : Nat := diff s (leftTo cs s i)
theorem diff_tab : (List.range 64).all (fun a => (List.range 64).all fun b => !subB b a || (decide (diff a b + b = a) && decide (diff a b &&& b = 0) && subB (diff a b) a)) = true := by decide +kernel
theorem diff_add {a b : Nat} (ha : a < 64) (h : subB b a = true) : diff a b + b = a ∧ diff a b &&& b = 0 ∧ subB (diff a b) a = true := by
  have h1 := List.all_eq_true.1 (List.all_eq_true.1 diff_tab a (List.mem_range.2 ha)) b (List.mem_range.2 (by have := sub_le h; omega))
  rw [h] at h1
  simp at h1
  exact ⟨h1.1.1, h1.1.2, h1.2⟩
theorem left_drop {cs : List Nat} {s : Nat} (hc : Codes cs) (hs : s < 2 ^ cs.length) : ∀ i, i ≤ (piecesOf cs s s).length → LeftI cs s (leftTo cs s i) ∧ (piecesOf cs s s).drop i = piecesOf cs s (leftTo cs s i)
  | 0, _ => ⟨LeftI.start, rfl⟩
  | i + 1, h => by
    obtain ⟨h1, h2⟩ := left_drop hc hs i (by omega)
    by_cases h0 : leftTo cs s i = 0
    · rw [h0, piecesOf_zero] at h2
      have := congrArg List.length h2
      simp at this
      omega
    · obtain ⟨p, hp⟩ := h1.piece hc hs h0
      have hn := (h1.next hc hs hp).1
      refine ⟨hn, ?_⟩
      rw [piecesOf_next hc hs h1 hp] at h2
      rw [← List.drop_drop, h2]
      rfl
structure JoinI (cs : List Nat) (s i x : Nat) : Prop where
  ne : x ≠ 0
  lt : x < 64
  sub : subB x s = true
  own : x < 2 ^ cs.length
  apart : tookTo cs s i &&& x = 0
  next : tookTo cs s i + x = tookTo cs s (i + 1)
  few : tookTo cs s (i + 1) < 64
  alone : piecesOf cs x x = [x]
  near : ∀ p, p < cs.length → x.testBit p = true → diff (cell cs p &&& s) x = 0
  low : i + 1 < (piecesOf cs s s).length → lowN x < lowN (cell (piecesOf cs s s) (i + 1))
theorem cell_drop (l : List Nat) (i : Nat) : cell (l.drop i) 0 = cell l i := by
  unfold cell; rw [List.getD_eq_getElem?_getD, List.getD_eq_getElem?_getD, List.getElem?_drop, Nat.add_zero]
theorem join_at {cs : List Nat} {s i : Nat} (hc : Codes cs) (hs : s < 2 ^ cs.length) (hi : i < (piecesOf cs s s).length) : JoinI cs s i (cell (piecesOf cs s s) i) := by
  have h6 : s < 64 := Nat.lt_of_lt_of_le hs (Nat.pow_le_pow_right (n := 2) (by omega) hc.2.1)
  obtain ⟨hl, hd⟩ := left_drop hc hs i (by omega)
  have h0 : leftTo cs s i ≠ 0 := fun e => by
    rw [e, piecesOf_zero] at hd
    have := congrArg List.length hd
    simp at this
    omega
  obtain ⟨p, hp⟩ := hl.piece hc hs h0
  obtain ⟨hn, hlt⟩ := hl.next hc hs hp
  have hx : cell (piecesOf cs s s) i = pieceN cs s (lowN (leftTo cs s i)) := by
    rw [← cell_drop, hd, piecesOf_next hc hs hl hp]; rfl
  rw [hx]
  have hl1 : leftTo cs s (i + 1) = diff (leftTo cs s i) (pieceN cs s (lowN (leftTo cs s i))) := rfl
  generalize pieceN cs s (lowN (leftTo cs s i)) = c at *
  obtain ⟨hlow, hc0, hc6⟩ := hp.low_same hc hs hl
  have hll := sub_le hl.sub
  obtain ⟨d1, d2, d3⟩ := diff_add h6 hl.sub
  obtain ⟨e1, e2, e3⟩ := diff_add (a := leftTo cs s i) (by omega) hp.sub
  obtain ⟨f1, f2, f3⟩ := diff_add h6 hn.sub
  have hcs : c < 2 ^ cs.length := by have := sub_le hp.piece.sub; omega
  refine ⟨hc0, hc6, hp.piece.sub, hcs, ?_, ?_, ?_, hp.alone hc hs hl, ?_, ?_⟩
  · refine zero_of_bits fun k => ?_
    unfold tookTo
    rw [Nat.testBit_and, diff_bit]
    rcases hk : c.testBit k with _ | _
    · simp
    · rw [sub_iff.1 hp.sub k hk]; simp
  · unfold tookTo
    rw [hl1]
    omega
  · have := sub_le (show subB (tookTo cs s (i + 1)) s = true by unfold tookTo; rw [hl1]; exact f3)
    omega
  · intro q hq hb
    refine zero_of_bits fun k => ?_
    rw [diff_bit]
    rcases hk : (cell cs q &&& s).testBit k with _ | _
    · simp
    · rw [Nat.testBit_and, Bool.and_eq_true] at hk
      rw [hp.piece.near q k hb ((near_bit hc hs hq).2 ⟨hk.2, .inl hk.1⟩)]; rfl
  · intro hi2
    obtain ⟨_, hd2⟩ := left_drop hc hs (i + 1) (by omega)
    have h02 : leftTo cs s (i + 1) ≠ 0 := fun e => by
      rw [e, piecesOf_zero] at hd2
      have := congrArg List.length hd2
      simp at this
      omega
    rw [hl1] at h02
    have hless := hp.low_less hc hs hl h02
    rw [← hl1] at hn h02 hless
    obtain ⟨q, hq⟩ := hn.piece hc hs h02
    have hx2 : cell (piecesOf cs s s) (i + 1) = pieceN cs s (lowN (leftTo cs s (i + 1))) := by
      rw [← cell_drop, hd2, piecesOf_next hc hs hn hq]; rfl
    rw [hx2, (hq.low_same hc hs hn).1, ← hq.low]
    exact hless
theorem join_end {cs : List Nat} {s : Nat} (hc : Codes cs) (hs : s < 2 ^ cs.length) : tookTo cs s (piecesOf cs s s).length = s := by
  have h6 : s < 64 := Nat.lt_of_lt_of_le hs (Nat.pow_le_pow_right (n := 2) (by omega) hc.2.1)
  obtain ⟨hl, hd⟩ := left_drop hc hs _ (Nat.le_refl _)
  rw [List.drop_length] at hd
  have h0 : leftTo cs s (piecesOf cs s s).length = 0 := Classical.byContradiction fun h0 => by
    obtain ⟨p, hp⟩ := hl.piece hc hs h0
    rw [piecesOf_next hc hs hl hp] at hd
    cases hd
  unfold tookTo
  rw [h0]
  exact (diff_add h6 (sub_iff.2 fun i h => by rw [Nat.zero_testBit] at h; cases h)).1
theorem took_zero (cs : List Nat) (s : Nat) : tookTo cs s 0 = 0 := zero_of_bits fun k => by
  unfold tookTo leftTo; rw [diff_bit]; cases s.testBit k <;> rfl
end Go.Proofs.YtppmgbjdbnedoalDoor

/- ply's reference: From. -/
set_option linter.unusedVariables false
set_option linter.unusedSimpArgs false
namespace Go.Proofs.YtppmgbjdbnedoalDoor
open Go.RowKit

theorem meet_next {p b : Nat} {ss : List Nat} {j : Nat} (hj : j < ss.length) : meetC p (ss.take (j + 1)) b = if (cell ss j).testBit p = true then meetC p (ss.take j) b &&& cell ss j else meetC p (ss.take j) b := by
  have e : cell ss j = ss[j] := by unfold cell; rw [List.getD_eq_getElem?_getD, List.getElem?_eq_getElem hj]; rfl
  rw [List.take_succ_eq_append_getElem hj, meetC_snoc, e]
theorem from_take {n : Nat} {ss : List Nat} {k : Nat} (hk : k < n) : ofNats ((fromN n ss).take (k + 1)) = ofNats ((fromN n ss).take k) ++ [((fromCell n ss k : Nat) : Int)] := by
  have hl := from_len n ss
  rw [List.take_succ_eq_append_getElem (by omega)]
  have h1 := from_cell (ss := ss) hk
  unfold cell at h1
  rw [List.getD_eq_getElem?_getD, List.getElem?_eq_getElem (by omega)] at h1
  unfold ofNats
  rw [List.map_append]
  congr 1
  simp only [List.map_cons, List.map_nil]
  congr 2

end Go.Proofs.YtppmgbjdbnedoalDoor

/- ply's reference: Joined. -/
set_option linter.unusedVariables false
set_option linter.unusedSimpArgs false
namespace Go.Proofs.YtppmgbjdbnedoalDoor
open Go.RowKit

def opTo (cs : List Nat) (b a k : Nat) : Bool := (List.range k).all fun i => !b.testBit i || subB (cell cs i &&& a) b
theorem opTo_next (cs : List Nat) (b a k : Nat) : opTo cs b a (k + 1) = (opTo cs b a k && (!b.testBit k || subB (cell cs k &&& a) b)) := by
  unfold opTo; rw [List.range_succ, List.all_append]; simp
theorem opTo_all (cs : List Nat) (b a : Nat) : opTo cs b a cs.length = openIn cs b a := rfl
set_option maxRecDepth 100000 in
set_option maxHeartbeats 3200000 in
theorem refJoined_any (v : Value) (cs : List Nat) (s : Nat) (w : World) (hr : Reads w v (ofNats cs)) (hc : Codes cs) (hs : s < 64) :
    Calls Tryd.prog 28 #[v, .int .i64 s] w fun e w' => e = .returned (.bool (joinedB cs s)) ∧ w = w' := by
  obtain ⟨a, cap, rfl, _, _, _⟩ := hr.open
  rw [ofNats_len] at hr ⊢
  have hl6 := hc.2.1
  have HC64 := Lib.hid (cell_64 hc)
  have HCS := Lib.hid hr.at.2
  have HY : Hid ((∀ b, b < s → b ≠ 0 → splitB cs s b = false) → joinedB cs s = true) := Lib.hid joined_iff.2
  have HNO : Hid (∀ b, b < s → b ≠ 0 → splitB cs s b = true → joinedB cs s = false) := Lib.hid (fun b h1 h2 h3 => by
    rcases hb : joinedB cs s with _ | _
    · rfl
    · have := joined_iff.1 hb b h1 h2
      rw [h3] at this; cases this)
  generalize joinedB cs s = B at *
  clear hr hc
  go_enter Tryd.func28, Tryd.ntmps28
  go_wp2_with fail
  go_loop [5] (fun x => ∃ A : Nat, 1 ≤ A ∧ A ≤ 64 ∧ x = .int .i64 A ∧ ∀ b, b < A → b ≠ 0 → splitB cs s b = false) (fun x => s - (intOf x).toNat)
  case atStart => exact ⟨1, by omega, by omega, rfl, fun b h1 h2 => by omega⟩
  case round =>
    obtain ⟨A, hA1, hA64, rfl, hdone⟩ := hrel
    have HDN := Lib.hid hdone
    clear hdone
    by_cases hlt : A < s
    · have k1 : (A : Int) < (s : Int) := by omega
      have A64 : A < 64 := by omega
      have HGO : Hid (splitB cs s A = false → ∀ b, b < A + 1 → b ≠ 0 → splitB cs s b = false) := Lib.hid (fun h b h1 h2 => by
        by_cases e : b = A
        · subst e; exact h
        · exact HDN.out b (by omega) h2)
      rcases hw : subB A s with _ | _
      · have HG := Lib.hid (HGO.out (by unfold splitB; rw [hw]; rfl))
        have HW := Lib.hid hw
        clear hw
        go_wp2_with fail
        refine (refWithin_any A s _ A64 hs).mono ?_
        rintro e w' ⟨rfl, rfl⟩
        rw [HW.out]
        go_wp2_with fail
        go_round
        case rel => exact ⟨A + 1, by omega, by omega, by go_num, HG.out⟩
        case measure => simp [intOf]; omega
      · obtain ⟨d1, _, d3⟩ := diff_add hs hw
        have HSP : Hid (splitB cs s A = (opTo cs A s cs.length && opTo cs (diff s A) s cs.length)) := Lib.hid (by unfold splitB; rw [hw]; rfl)
        have HW := Lib.hid hw
        obtain ⟨D, hD⟩ : ∃ D, diff s A = D := ⟨_, rfl⟩
        rw [hD] at d1 d3 HSP
        have D64 : D < 64 := by omega
        have HSD : Hid ((s : Int) - (A : Int) = (D : Int)) := Lib.hid (by omega)
        clear hw hD d3
        go_wp2_with fail
        refine (refWithin_any A s _ A64 hs).mono ?_
        rintro e w' ⟨rfl, rfl⟩
        rw [HW.out]
        go_wp2_with fail
        go_loop [6, 7, 8] (fun x y i => ∃ k : Nat, k ≤ cs.length ∧ i = .int .i64 k ∧ x = .bool (opTo cs A s k) ∧ y = .bool (opTo cs D s k)) (fun _ _ i => cs.length - (intOf i).toNat)
        case atStart => exact ⟨0, by omega, rfl, rfl, rfl⟩
        case round =>
          obtain ⟨k, hk, rfl, rfl, rfl⟩ := hrel
          by_cases hkl : k < cs.length
          · have k0 : (0 : Int) ≤ (k : Int) := by omega
            have k2 : (k : Int) < (cs.length : Int) := by omega
            obtain ⟨b, off, rfl, hbb, hck⟩ := HCS.out k hkl
            have c64 := HC64.out k
            have e1 := i64_and (cell cs k) s (by omega) (by omega)
            have g64 : (cell cs k &&& s) < 64 := by have := Nat.and_le_left (n := cell cs k) (m := s); omega
            rcases ho1 : opTo cs A s k with _ | _
            · skip
              rcases ho2 : opTo cs D s k with _ | _
              · skip
                have HN1 : Hid (opTo cs A s (k + 1) = false) := Lib.hid (by rw [opTo_next, ho1]; rfl)
                have HN2 : Hid (opTo cs D s (k + 1) = false) := Lib.hid (by rw [opTo_next, ho2]; rfl)
                clear ho1
                clear ho2
                go_wp2_with fail
                go_round
                case rel => exact ⟨k + 1, by omega, by go_num, by rw [HN1.out], by rw [HN2.out]⟩
                case measure => simp [intOf]; omega
              · rcases hb2 : D.testBit k with _ | _
                · skip
                  have HN1 : Hid (opTo cs A s (k + 1) = false) := Lib.hid (by rw [opTo_next, ho1]; rfl)
                  have HN2 : Hid (opTo cs D s (k + 1) = true) := Lib.hid (by rw [opTo_next, ho2, hb2]; rfl)
                  clear ho1
                  have HB2 := Lib.hid hb2
                  clear ho2 hb2
                  go_wp2_with fail
                  rw [HSD.out]
                  refine (refHas_any D k _ (by omega) (by omega)).mono ?_
                  rintro e w' ⟨rfl, rfl⟩
                  rw [HB2.out]
                  go_wp2_with fail
                  go_round
                  case rel => exact ⟨k + 1, by omega, by go_num, by rw [HN1.out], by rw [HN2.out]⟩
                  case measure => simp [intOf]; omega
                · rcases hs2 : subB (cell cs k &&& s) D with _ | _
                  · skip
                    have HN1 : Hid (opTo cs A s (k + 1) = false) := Lib.hid (by rw [opTo_next, ho1]; rfl)
                    have HN2 : Hid (opTo cs D s (k + 1) = false) := Lib.hid (by rw [opTo_next, ho2, hb2, hs2]; rfl)
                    clear ho1
                    have HB2 := Lib.hid hb2
                    have HS2 := Lib.hid hs2
                    clear ho2 hb2 hs2
                    go_wp2_with fail
                    rw [HSD.out]
                    refine (refHas_any D k _ (by omega) (by omega)).mono ?_
                    rintro e w' ⟨rfl, rfl⟩
                    rw [HB2.out]
                    go_wp2_with fail
                    rw [HSD.out]
                    refine (refWithin_any (cell cs k &&& s) D _ (by omega) (by omega)).mono ?_
                    rintro e w' ⟨rfl, rfl⟩
                    rw [HS2.out]
                    go_wp2_with fail
                    go_round
                    case rel => exact ⟨k + 1, by omega, by go_num, by rw [HN1.out], by rw [HN2.out]⟩
                    case measure => simp [intOf]; omega
                  · skip
                    have HN1 : Hid (opTo cs A s (k + 1) = false) := Lib.hid (by rw [opTo_next, ho1]; rfl)
                    have HN2 : Hid (opTo cs D s (k + 1) = true) := Lib.hid (by rw [opTo_next, ho2, hb2, hs2]; rfl)
                    clear ho1
                    have HB2 := Lib.hid hb2
                    have HS2 := Lib.hid hs2
                    clear ho2 hb2 hs2
                    go_wp2_with fail
                    rw [HSD.out]
                    refine (refHas_any D k _ (by omega) (by omega)).mono ?_
                    rintro e w' ⟨rfl, rfl⟩
                    rw [HB2.out]
                    go_wp2_with fail
                    rw [HSD.out]
                    refine (refWithin_any (cell cs k &&& s) D _ (by omega) (by omega)).mono ?_
                    rintro e w' ⟨rfl, rfl⟩
                    rw [HS2.out]
                    go_wp2_with fail
                    go_round
                    case rel => exact ⟨k + 1, by omega, by go_num, by rw [HN1.out], by rw [HN2.out]⟩
                    case measure => simp [intOf]; omega
            · rcases hb1 : A.testBit k with _ | _
              · skip
                rcases ho2 : opTo cs D s k with _ | _
                · skip
                  have HN1 : Hid (opTo cs A s (k + 1) = true) := Lib.hid (by rw [opTo_next, ho1, hb1]; rfl)
                  have HN2 : Hid (opTo cs D s (k + 1) = false) := Lib.hid (by rw [opTo_next, ho2]; rfl)
                  have HB1 := Lib.hid hb1
                  clear ho1 hb1
                  clear ho2
                  go_wp2_with fail
                  refine (refHas_any A k _ (by omega) (by omega)).mono ?_
                  rintro e w' ⟨rfl, rfl⟩
                  rw [HB1.out]
                  go_wp2_with fail
                  go_round
                  case rel => exact ⟨k + 1, by omega, by go_num, by rw [HN1.out], by rw [HN2.out]⟩
                  case measure => simp [intOf]; omega
                · rcases hb2 : D.testBit k with _ | _
                  · skip
                    have HN1 : Hid (opTo cs A s (k + 1) = true) := Lib.hid (by rw [opTo_next, ho1, hb1]; rfl)
                    have HN2 : Hid (opTo cs D s (k + 1) = true) := Lib.hid (by rw [opTo_next, ho2, hb2]; rfl)
                    have HB1 := Lib.hid hb1
                    clear ho1 hb1
                    have HB2 := Lib.hid hb2
                    clear ho2 hb2
                    go_wp2_with fail
                    refine (refHas_any A k _ (by omega) (by omega)).mono ?_
                    rintro e w' ⟨rfl, rfl⟩
                    rw [HB1.out]
                    go_wp2_with fail
                    rw [HSD.out]
                    refine (refHas_any D k _ (by omega) (by omega)).mono ?_
                    rintro e w' ⟨rfl, rfl⟩
                    rw [HB2.out]
                    go_wp2_with fail
                    go_round
                    case rel => exact ⟨k + 1, by omega, by go_num, by rw [HN1.out], by rw [HN2.out]⟩
                    case measure => simp [intOf]; omega
                  · rcases hs2 : subB (cell cs k &&& s) D with _ | _
                    · skip
                      have HN1 : Hid (opTo cs A s (k + 1) = true) := Lib.hid (by rw [opTo_next, ho1, hb1]; rfl)
                      have HN2 : Hid (opTo cs D s (k + 1) = false) := Lib.hid (by rw [opTo_next, ho2, hb2, hs2]; rfl)
                      have HB1 := Lib.hid hb1
                      clear ho1 hb1
                      have HB2 := Lib.hid hb2
                      have HS2 := Lib.hid hs2
                      clear ho2 hb2 hs2
                      go_wp2_with fail
                      refine (refHas_any A k _ (by omega) (by omega)).mono ?_
                      rintro e w' ⟨rfl, rfl⟩
                      rw [HB1.out]
                      go_wp2_with fail
                      rw [HSD.out]
                      refine (refHas_any D k _ (by omega) (by omega)).mono ?_
                      rintro e w' ⟨rfl, rfl⟩
                      rw [HB2.out]
                      go_wp2_with fail
                      rw [HSD.out]
                      refine (refWithin_any (cell cs k &&& s) D _ (by omega) (by omega)).mono ?_
                      rintro e w' ⟨rfl, rfl⟩
                      rw [HS2.out]
                      go_wp2_with fail
                      go_round
                      case rel => exact ⟨k + 1, by omega, by go_num, by rw [HN1.out], by rw [HN2.out]⟩
                      case measure => simp [intOf]; omega
                    · skip
                      have HN1 : Hid (opTo cs A s (k + 1) = true) := Lib.hid (by rw [opTo_next, ho1, hb1]; rfl)
                      have HN2 : Hid (opTo cs D s (k + 1) = true) := Lib.hid (by rw [opTo_next, ho2, hb2, hs2]; rfl)
                      have HB1 := Lib.hid hb1
                      clear ho1 hb1
                      have HB2 := Lib.hid hb2
                      have HS2 := Lib.hid hs2
                      clear ho2 hb2 hs2
                      go_wp2_with fail
                      refine (refHas_any A k _ (by omega) (by omega)).mono ?_
                      rintro e w' ⟨rfl, rfl⟩
                      rw [HB1.out]
                      go_wp2_with fail
                      rw [HSD.out]
                      refine (refHas_any D k _ (by omega) (by omega)).mono ?_
                      rintro e w' ⟨rfl, rfl⟩
                      rw [HB2.out]
                      go_wp2_with fail
                      rw [HSD.out]
                      refine (refWithin_any (cell cs k &&& s) D _ (by omega) (by omega)).mono ?_
                      rintro e w' ⟨rfl, rfl⟩
                      rw [HS2.out]
                      go_wp2_with fail
                      go_round
                      case rel => exact ⟨k + 1, by omega, by go_num, by rw [HN1.out], by rw [HN2.out]⟩
                      case measure => simp [intOf]; omega
              · rcases hs1 : subB (cell cs k &&& s) A with _ | _
                · skip
                  rcases ho2 : opTo cs D s k with _ | _
                  · skip
                    have HN1 : Hid (opTo cs A s (k + 1) = false) := Lib.hid (by rw [opTo_next, ho1, hb1, hs1]; rfl)
                    have HN2 : Hid (opTo cs D s (k + 1) = false) := Lib.hid (by rw [opTo_next, ho2]; rfl)
                    have HB1 := Lib.hid hb1
                    have HS1 := Lib.hid hs1
                    clear ho1 hb1 hs1
                    clear ho2
                    go_wp2_with fail
                    refine (refHas_any A k _ (by omega) (by omega)).mono ?_
                    rintro e w' ⟨rfl, rfl⟩
                    rw [HB1.out]
                    go_wp2_with fail
                    refine (refWithin_any (cell cs k &&& s) A _ (by omega) (by omega)).mono ?_
                    rintro e w' ⟨rfl, rfl⟩
                    rw [HS1.out]
                    go_wp2_with fail
                    go_round
                    case rel => exact ⟨k + 1, by omega, by go_num, by rw [HN1.out], by rw [HN2.out]⟩
                    case measure => simp [intOf]; omega
                  · rcases hb2 : D.testBit k with _ | _
                    · skip
                      have HN1 : Hid (opTo cs A s (k + 1) = false) := Lib.hid (by rw [opTo_next, ho1, hb1, hs1]; rfl)
                      have HN2 : Hid (opTo cs D s (k + 1) = true) := Lib.hid (by rw [opTo_next, ho2, hb2]; rfl)
                      have HB1 := Lib.hid hb1
                      have HS1 := Lib.hid hs1
                      clear ho1 hb1 hs1
                      have HB2 := Lib.hid hb2
                      clear ho2 hb2
                      go_wp2_with fail
                      refine (refHas_any A k _ (by omega) (by omega)).mono ?_
                      rintro e w' ⟨rfl, rfl⟩
                      rw [HB1.out]
                      go_wp2_with fail
                      refine (refWithin_any (cell cs k &&& s) A _ (by omega) (by omega)).mono ?_
                      rintro e w' ⟨rfl, rfl⟩
                      rw [HS1.out]
                      go_wp2_with fail
                      rw [HSD.out]
                      refine (refHas_any D k _ (by omega) (by omega)).mono ?_
                      rintro e w' ⟨rfl, rfl⟩
                      rw [HB2.out]
                      go_wp2_with fail
                      go_round
                      case rel => exact ⟨k + 1, by omega, by go_num, by rw [HN1.out], by rw [HN2.out]⟩
                      case measure => simp [intOf]; omega
                    · rcases hs2 : subB (cell cs k &&& s) D with _ | _
                      · skip
                        have HN1 : Hid (opTo cs A s (k + 1) = false) := Lib.hid (by rw [opTo_next, ho1, hb1, hs1]; rfl)
                        have HN2 : Hid (opTo cs D s (k + 1) = false) := Lib.hid (by rw [opTo_next, ho2, hb2, hs2]; rfl)
                        have HB1 := Lib.hid hb1
                        have HS1 := Lib.hid hs1
                        clear ho1 hb1 hs1
                        have HB2 := Lib.hid hb2
                        have HS2 := Lib.hid hs2
                        clear ho2 hb2 hs2
                        go_wp2_with fail
                        refine (refHas_any A k _ (by omega) (by omega)).mono ?_
                        rintro e w' ⟨rfl, rfl⟩
                        rw [HB1.out]
                        go_wp2_with fail
                        refine (refWithin_any (cell cs k &&& s) A _ (by omega) (by omega)).mono ?_
                        rintro e w' ⟨rfl, rfl⟩
                        rw [HS1.out]
                        go_wp2_with fail
                        rw [HSD.out]
                        refine (refHas_any D k _ (by omega) (by omega)).mono ?_
                        rintro e w' ⟨rfl, rfl⟩
                        rw [HB2.out]
                        go_wp2_with fail
                        rw [HSD.out]
                        refine (refWithin_any (cell cs k &&& s) D _ (by omega) (by omega)).mono ?_
                        rintro e w' ⟨rfl, rfl⟩
                        rw [HS2.out]
                        go_wp2_with fail
                        go_round
                        case rel => exact ⟨k + 1, by omega, by go_num, by rw [HN1.out], by rw [HN2.out]⟩
                        case measure => simp [intOf]; omega
                      · skip
                        have HN1 : Hid (opTo cs A s (k + 1) = false) := Lib.hid (by rw [opTo_next, ho1, hb1, hs1]; rfl)
                        have HN2 : Hid (opTo cs D s (k + 1) = true) := Lib.hid (by rw [opTo_next, ho2, hb2, hs2]; rfl)
                        have HB1 := Lib.hid hb1
                        have HS1 := Lib.hid hs1
                        clear ho1 hb1 hs1
                        have HB2 := Lib.hid hb2
                        have HS2 := Lib.hid hs2
                        clear ho2 hb2 hs2
                        go_wp2_with fail
                        refine (refHas_any A k _ (by omega) (by omega)).mono ?_
                        rintro e w' ⟨rfl, rfl⟩
                        rw [HB1.out]
                        go_wp2_with fail
                        refine (refWithin_any (cell cs k &&& s) A _ (by omega) (by omega)).mono ?_
                        rintro e w' ⟨rfl, rfl⟩
                        rw [HS1.out]
                        go_wp2_with fail
                        rw [HSD.out]
                        refine (refHas_any D k _ (by omega) (by omega)).mono ?_
                        rintro e w' ⟨rfl, rfl⟩
                        rw [HB2.out]
                        go_wp2_with fail
                        rw [HSD.out]
                        refine (refWithin_any (cell cs k &&& s) D _ (by omega) (by omega)).mono ?_
                        rintro e w' ⟨rfl, rfl⟩
                        rw [HS2.out]
                        go_wp2_with fail
                        go_round
                        case rel => exact ⟨k + 1, by omega, by go_num, by rw [HN1.out], by rw [HN2.out]⟩
                        case measure => simp [intOf]; omega
                · skip
                  rcases ho2 : opTo cs D s k with _ | _
                  · skip
                    have HN1 : Hid (opTo cs A s (k + 1) = true) := Lib.hid (by rw [opTo_next, ho1, hb1, hs1]; rfl)
                    have HN2 : Hid (opTo cs D s (k + 1) = false) := Lib.hid (by rw [opTo_next, ho2]; rfl)
                    have HB1 := Lib.hid hb1
                    have HS1 := Lib.hid hs1
                    clear ho1 hb1 hs1
                    clear ho2
                    go_wp2_with fail
                    refine (refHas_any A k _ (by omega) (by omega)).mono ?_
                    rintro e w' ⟨rfl, rfl⟩
                    rw [HB1.out]
                    go_wp2_with fail
                    refine (refWithin_any (cell cs k &&& s) A _ (by omega) (by omega)).mono ?_
                    rintro e w' ⟨rfl, rfl⟩
                    rw [HS1.out]
                    go_wp2_with fail
                    go_round
                    case rel => exact ⟨k + 1, by omega, by go_num, by rw [HN1.out], by rw [HN2.out]⟩
                    case measure => simp [intOf]; omega
                  · rcases hb2 : D.testBit k with _ | _
                    · skip
                      have HN1 : Hid (opTo cs A s (k + 1) = true) := Lib.hid (by rw [opTo_next, ho1, hb1, hs1]; rfl)
                      have HN2 : Hid (opTo cs D s (k + 1) = true) := Lib.hid (by rw [opTo_next, ho2, hb2]; rfl)
                      have HB1 := Lib.hid hb1
                      have HS1 := Lib.hid hs1
                      clear ho1 hb1 hs1
                      have HB2 := Lib.hid hb2
                      clear ho2 hb2
                      go_wp2_with fail
                      refine (refHas_any A k _ (by omega) (by omega)).mono ?_
                      rintro e w' ⟨rfl, rfl⟩
                      rw [HB1.out]
                      go_wp2_with fail
                      refine (refWithin_any (cell cs k &&& s) A _ (by omega) (by omega)).mono ?_
                      rintro e w' ⟨rfl, rfl⟩
                      rw [HS1.out]
                      go_wp2_with fail
                      rw [HSD.out]
                      refine (refHas_any D k _ (by omega) (by omega)).mono ?_
                      rintro e w' ⟨rfl, rfl⟩
                      rw [HB2.out]
                      go_wp2_with fail
                      go_round
                      case rel => exact ⟨k + 1, by omega, by go_num, by rw [HN1.out], by rw [HN2.out]⟩
                      case measure => simp [intOf]; omega
                    · rcases hs2 : subB (cell cs k &&& s) D with _ | _
                      · skip
                        have HN1 : Hid (opTo cs A s (k + 1) = true) := Lib.hid (by rw [opTo_next, ho1, hb1, hs1]; rfl)
                        have HN2 : Hid (opTo cs D s (k + 1) = false) := Lib.hid (by rw [opTo_next, ho2, hb2, hs2]; rfl)
                        have HB1 := Lib.hid hb1
                        have HS1 := Lib.hid hs1
                        clear ho1 hb1 hs1
                        have HB2 := Lib.hid hb2
                        have HS2 := Lib.hid hs2
                        clear ho2 hb2 hs2
                        go_wp2_with fail
                        refine (refHas_any A k _ (by omega) (by omega)).mono ?_
                        rintro e w' ⟨rfl, rfl⟩
                        rw [HB1.out]
                        go_wp2_with fail
                        refine (refWithin_any (cell cs k &&& s) A _ (by omega) (by omega)).mono ?_
                        rintro e w' ⟨rfl, rfl⟩
                        rw [HS1.out]
                        go_wp2_with fail
                        rw [HSD.out]
                        refine (refHas_any D k _ (by omega) (by omega)).mono ?_
                        rintro e w' ⟨rfl, rfl⟩
                        rw [HB2.out]
                        go_wp2_with fail
                        rw [HSD.out]
                        refine (refWithin_any (cell cs k &&& s) D _ (by omega) (by omega)).mono ?_
                        rintro e w' ⟨rfl, rfl⟩
                        rw [HS2.out]
                        go_wp2_with fail
                        go_round
                        case rel => exact ⟨k + 1, by omega, by go_num, by rw [HN1.out], by rw [HN2.out]⟩
                        case measure => simp [intOf]; omega
                      · skip
                        have HN1 : Hid (opTo cs A s (k + 1) = true) := Lib.hid (by rw [opTo_next, ho1, hb1, hs1]; rfl)
                        have HN2 : Hid (opTo cs D s (k + 1) = true) := Lib.hid (by rw [opTo_next, ho2, hb2, hs2]; rfl)
                        have HB1 := Lib.hid hb1
                        have HS1 := Lib.hid hs1
                        clear ho1 hb1 hs1
                        have HB2 := Lib.hid hb2
                        have HS2 := Lib.hid hs2
                        clear ho2 hb2 hs2
                        go_wp2_with fail
                        refine (refHas_any A k _ (by omega) (by omega)).mono ?_
                        rintro e w' ⟨rfl, rfl⟩
                        rw [HB1.out]
                        go_wp2_with fail
                        refine (refWithin_any (cell cs k &&& s) A _ (by omega) (by omega)).mono ?_
                        rintro e w' ⟨rfl, rfl⟩
                        rw [HS1.out]
                        go_wp2_with fail
                        rw [HSD.out]
                        refine (refHas_any D k _ (by omega) (by omega)).mono ?_
                        rintro e w' ⟨rfl, rfl⟩
                        rw [HB2.out]
                        go_wp2_with fail
                        rw [HSD.out]
                        refine (refWithin_any (cell cs k &&& s) D _ (by omega) (by omega)).mono ?_
                        rintro e w' ⟨rfl, rfl⟩
                        rw [HS2.out]
                        go_wp2_with fail
                        go_round
                        case rel => exact ⟨k + 1, by omega, by go_num, by rw [HN1.out], by rw [HN2.out]⟩
                        case measure => simp [intOf]; omega
          · have hkn : k = cs.length := by omega
            have HSK : Hid (splitB cs s A = (opTo cs A s k && opTo cs D s k)) := Lib.hid (by rw [hkn]; exact HSP.out)
            rcases h1 : opTo cs A s k with _ | _
            · have HG := Lib.hid (HGO.out (by rw [HSK.out, h1]; rfl))
              clear h1 hkn
              go_wp2_with fail
              go_round
              case rel => exact ⟨A + 1, by omega, by omega, by go_num, HG.out⟩
              case measure => simp [intOf]; omega
            · rcases h2 : opTo cs D s k with _ | _
              · have HG := Lib.hid (HGO.out (by rw [HSK.out, h1, h2]; rfl))
                clear h1 h2 hkn
                go_wp2_with fail
                go_round
                case rel => exact ⟨A + 1, by omega, by omega, by go_num, HG.out⟩
                case measure => simp [intOf]; omega
              · have HB := Lib.hid (HNO.out A hlt (by omega) (by rw [HSK.out, h1, h2]; rfl))
                clear h1 h2 hkn
                go_wp2_with fail
                go_ret
                exact ⟨ret_bool HB.out.symm, rfl⟩
    · have HB := Lib.hid (HY.out fun b h1 h2 => HDN.out b (by omega) h2)
      go_wp2_with fail
      go_ret
      exact ⟨ret_bool HB.out.symm, rfl⟩
end Go.Proofs.YtppmgbjdbnedoalDoor
