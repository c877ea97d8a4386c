import Derived.Test.YtppmgbjdbnedoadDoorMergeA
import Derived.Test.YtppmgbjdbnedoadDoorMergeB
/- ply: ints and awake, what every statement looks at. -/
set_option linter.unusedVariables false
set_option linter.unusedSimpArgs false
namespace Go.Proofs.YtppmgbjdbnedoadDoor
open Go.RowKit

theorem take_eq_succ {xs ys : List Int} {k : Nat} (h1 : k < xs.length) (h2 : k < ys.length) (h : xs.take k = ys.take k) (he : gi xs k = gi ys k) : xs.take (k + 1) = ys.take (k + 1) := by
  rw [List.take_succ_eq_append_getElem h1, List.take_succ_eq_append_getElem h2, h, ← gi_lt h1, ← gi_lt h2, he]

set_option maxRecDepth 100000 in
set_option maxHeartbeats 800000 in
theorem ints_any (v u : Value) (xs ys : List Int) (w : World) (hr : Reads w v xs) (hs : Reads w u ys) :
    Calls Tryd.prog 9 #[v, u] w fun e w' => e = .returned (.bool (decide (xs = ys))) ∧ ∃ n, w' = w.drewN n := by
  obtain ⟨a, cap, rfl, h1, h2, hcell⟩ := hr.open
  obtain ⟨a2, cap2, rfl, h12, h22, hcell2⟩ := hs.open
  have h3 : xs.length ≤ 9223372036854775807 := by unfold maxLen at h2; omega
  clear h2 h22
  by_cases hl : xs.length = ys.length
  · have hl' : ((xs.length : Int) == (ys.length : Int)) = true := by simp [hl]
    have hl2 : (!((xs.length : Int) == (ys.length : Int))) = false := by simp [hl]
    have HL := Lib.hid hl
    clear hl
    go_enter Tryd.func9, Tryd.ntmps9
    go_wp2_with fail
    go_loopw [5] (fun i wr => ∃ k m : Nat, k ≤ xs.length ∧ i = .int .i64 k ∧ xs.take k = ys.take k ∧ wr = w.drewN m) (fun i _ => xs.length - (intOf i).toNat)
    case atStart => exact ⟨0, 0, by omega, rfl, by simp, rfl⟩
    case round =>
      obtain ⟨k, m, hk, rfl, ht, rfl⟩ := hrel
      have HT := Lib.hid ht
      clear ht
      by_cases hlt : k < xs.length
      · obtain ⟨b, off, rfl, hb, hc⟩ := hcell k hlt
        obtain ⟨b2, off2, rfl, hb2, hc2⟩ := hcell2 k (by have := HL.out; omega)
        clear hcell hcell2
        have hk0 : (0 : Int) ≤ (k : Int) := by omega
        have hk1 : (k : Int) < (xs.length : Int) := by omega
        have hk2 : (k : Int) < (ys.length : Int) := by have := HL.out; omega
        go_wp2_with fail
        go_quiet (fail)
        by_cases he : gi xs k = gi ys k
        · have he' : ((gi xs k) == (gi ys k)) = true := by simp [he]
          have HE := Lib.hid he
          clear he
          go_wp2
          go_roundw
          case rel => exact ⟨k + 1, _, by omega, by go_num, take_eq_succ hlt (by have := HL.out; omega) HT.out HE.out, rfl⟩
          case measure => simp [intOf]; omega
        · have he' : ((gi xs k) == (gi ys k)) = false := by simp [he]
          have HE := Lib.hid he
          clear he
          go_wp2
          go_ret
          refine ⟨ret_bool ?_, _, by first | rfl | exact World.drewN_drewN ..⟩
          symm
          rw [decide_eq_false_iff_not]
          rintro rfl; exact HE.out rfl
      · go_wp2_with fail
        go_ret
        refine ⟨ret_bool ?_, _, rfl⟩
        symm
        rw [decide_eq_true_eq]
        have h := HT.out
        have h9 := HL.out
        rwa [List.take_of_length_le (by omega), List.take_of_length_le (by omega)] at h
  · have hl' : ((xs.length : Int) == (ys.length : Int)) = false := by
      rw [beq_eq_false_iff_ne]; intro h; exact hl (by exact_mod_cast h)
    have HL := Lib.hid hl
    clear hl
    go_enter Tryd.func9, Tryd.ntmps9
    go_wp2_with fail
    go_ret
    refine ⟨ret_bool ?_, 0, rfl⟩
    symm
    rw [decide_eq_false_iff_not]
    rintro rfl; exact HL.out rfl

theorem ints_same (v u : Value) (xs : List Int) (w : World) (hr : Reads w v xs) (hs : Reads w u xs) :
    Calls Tryd.prog 9 #[v, u] w fun e w' => e = .returned (.bool true) ∧ ∃ n, w' = w.drewN n :=
  (ints_any v u xs xs w hr hs).mono fun e w' h => ⟨by rw [h.1, decide_eq_true rfl], h.2⟩
/-- a slice of no numbers shows its length -/
theorem reads_nil {w : World} {v : Value} (h : Reads w v []) : ∃ a cap, v = .slice a 0 cap := by
  obtain ⟨a, cap, h1, _⟩ := h
  exact ⟨a, cap, h1⟩

theorem reads_lit {w : World} {b : Nat} {xs : List Int} {cs : Array Value} {t : TypeId} (h : w.heap[b]? = some (.cells cs t)) (hc : cs = (xs.map (Value.int .i64)).toArray) (hl : xs.length ≤ 1000) : Reads w (.slice (some ⟨b, 0, none⟩) xs.length xs.length) xs := by
  subst hc
  refine ⟨_, xs.length, rfl, Nat.le_refl _, by simp [maxLen]; omega, .inr ⟨b, 0, rfl, heap_lt h, fun j hj => ?_⟩⟩
  rw [Nat.zero_add, cell_of_row _ _ _ _ _ _ h, gi_lt hj]
  simp [hj]

theorem codes_dec {cs : List Nat} (h : (decide (1 ≤ cs.length) && decide (cs.length ≤ 6) && cs.all fun x => decide (x < 2 ^ cs.length)) = true) : Codes cs := by
  simp only [Bool.and_eq_true, decide_eq_true_eq, List.all_eq_true] at h
  refine ⟨h.1.1, h.1.2, fun p => ?_⟩
  unfold cell
  by_cases hp : p < cs.length
  · have e : cs.getD p 0 = cs[p] := by simp [List.getD_eq_getElem?_getD, hp]
    rw [e]; exact h.2 _ (List.getElem_mem hp)
  · have e : cs.getD p 0 = 0 := by simp only [List.getD_eq_getElem?_getD]; rw [List.getElem?_eq_none (by omega)]; rfl
    rw [e]; exact Nat.two_pow_pos _
theorem cod13 : Codes [1, 3] := codes_dec (by decide)
theorem cod1 : Codes [1, 2, 7, 11] := codes_dec (by decide)
theorem aw1 : opensN [1, 3] = [0, 1, 3] := by kernel_rfl
theorem aw2 : closureN [1, 3] 1 = 3 := by kernel_rfl
theorem aw3 : bitsOf (coreN [1, 3]) = [1] := by kernel_rfl
theorem aw4 : (smoothsN [1, 3] [1, 3]).length = 3 := by kernel_rfl
theorem aw5 : wrap64 (sumTo (dnV [1, 2, 7, 11]) 4) = 0 := by kernel_rfl

set_option maxRecDepth 100000 in
set_option maxHeartbeats 3200000 in
theorem awake_any (w : World) (hT : Tab w) : Calls Tryd.prog 8 #[] w fun e w' => e = .returned (.bool true) ∧ Below w.heap.size w w' := by
  have r1 : Reads _ _ (ofNats [1, 3]) := reads_lit (xs := [1, 3]) (heap_alloc_new w (.cells #[.int .i64 1, .int .i64 3] 3)) rfl (by simp)
  have b1 := (Below.refl _ w).alloc (Nat.le_refl _) (.cells #[.int .i64 1, .int .i64 3] 3)
  go_enter Tryd.func8, Tryd.ntmps8
  go_wp2_with fail
  refine (Opens_yes _ [1, 3] _ r1 cod13 (by kernel_rfl) (hT.below b1)).mono ?_
  rintro e w1 ⟨v1, rfl, hc1⟩
  rw [aw1] at hc1
  have b2 := below_to b1 b1.size hc1.below
  have ro : Reads w1 v1 [0, 1, 3] := hc1.reads
  clear hc1 r1 b1
  go_wp2_with fail
  have r2 : Reads _ _ (ofNats [1, 3]) := reads_lit (xs := [1, 3]) (heap_alloc_new w1 (.cells #[.int .i64 1, .int .i64 3] 3)) rfl (by simp)
  have b3 := b2.alloc b2.size (.cells #[.int .i64 1, .int .i64 3] 3)
  have ro2 := ro.below ((Below.refl _ _).alloc (Nat.le_refl _) (.cells #[.int .i64 1, .int .i64 3] 3))
  refine (Closure_yes _ [1, 3] 1 _ r2 cod13 (by kernel_rfl) (by decide) (hT.below b3)).mono ?_
  rintro e w2 ⟨rfl, hb⟩
  rw [aw2]
  have b4 := below_to b3 b3.size hb
  have ro3 := ro2.below hb
  clear hb r2 b3 ro2 ro b2
  go_wp2_with fail
  have r3 : Reads _ _ (ofNats [1, 3]) := reads_lit (xs := [1, 3]) (heap_alloc_new w2 (.cells #[.int .i64 1, .int .i64 3] 3)) rfl (by simp)
  have b5 := b4.alloc b4.size (.cells #[.int .i64 1, .int .i64 3] 3)
  have ro4 := ro3.below ((Below.refl _ _).alloc (Nat.le_refl _) (.cells #[.int .i64 1, .int .i64 3] 3))
  refine (Core_yes _ [1, 3] _ r3 cod13 (by kernel_rfl) (hT.below b5)).mono ?_
  rintro e w3 ⟨v3, rfl, hc3⟩
  rw [aw3] at hc3
  have b6 := below_to b5 b5.size hc3.below
  have ro5 := ro4.below hc3.below
  have rc : Reads w3 v3 [1] := hc3.reads
  clear hc3 r3 b4 ro3 b5 ro4
  go_wp2_with fail
  have r4 : Reads _ _ (ofNats [1, 3]) := (reads_lit (xs := [1, 3]) (heap_alloc_new w3 (.cells #[.int .i64 1, .int .i64 3] 3)) rfl (by simp)).below ((Below.refl _ _).alloc (Nat.le_refl _) (.cells #[.int .i64 1, .int .i64 3] 3))
  have r5 : Reads _ _ (ofNats [1, 3]) := reads_lit (xs := [1, 3]) (heap_alloc_at (w3.alloc (.cells #[.int .i64 1, .int .i64 3] 3)) (.cells #[.int .i64 1, .int .i64 3] 3) (w3.heap.size + 1) (by simp)) rfl (by simp)
  have b7 := b6.alloc b6.size (.cells #[.int .i64 1, .int .i64 3] 3)
  have b8 := b7.alloc b7.size (.cells #[.int .i64 1, .int .i64 3] 3)
  have ro6 := (ro5.below ((Below.refl _ _).alloc (Nat.le_refl _) (.cells #[.int .i64 1, .int .i64 3] 3))).below ((Below.refl _ _).alloc (Nat.le_refl _) (.cells #[.int .i64 1, .int .i64 3] 3))
  have rc6 := (rc.below ((Below.refl _ _).alloc (Nat.le_refl _) (.cells #[.int .i64 1, .int .i64 3] 3))).below ((Below.refl _ _).alloc (Nat.le_refl _) (.cells #[.int .i64 1, .int .i64 3] 3))
  refine (Smooth_yes _ _ [1, 3] [1, 3] _ r4 r5 cod13 cod13 (by kernel_rfl) (by kernel_rfl) (hT.below b8)).mono ?_
  rintro e w4 ⟨rfl, hb⟩
  rw [aw4]
  have b9 := below_to b8 b8.size hb
  have ro7 := ro6.below hb
  have rc7 := rc6.below hb
  clear hb r4 r5 b6 b7 b8 ro5 ro6 rc rc6
  go_wp2_with fail
  have r6 : Reads _ _ (ofNats [1, 2, 7, 11]) := reads_lit (xs := [1, 2, 7, 11]) (heap_alloc_new w4 (.cells #[.int .i64 1, .int .i64 2, .int .i64 7, .int .i64 11] 3)) rfl (by simp)
  have b10 := b9.alloc b9.size (.cells #[.int .i64 1, .int .i64 2, .int .i64 7, .int .i64 11] 3)
  have ro8 := ro7.below ((Below.refl _ _).alloc (Nat.le_refl _) (.cells #[.int .i64 1, .int .i64 2, .int .i64 7, .int .i64 11] 3))
  have rc8 := rc7.below ((Below.refl _ _).alloc (Nat.le_refl _) (.cells #[.int .i64 1, .int .i64 2, .int .i64 7, .int .i64 11] 3))
  refine (Chains_yes _ [1, 2, 7, 11] _ r6 cod1 (by kernel_rfl) (by kernel_rfl) (hT.below b10)).mono ?_
  rintro e w5 ⟨rfl, hb⟩
  rw [show ([1, 2, 7, 11] : List Nat).length = 4 from rfl, aw5]
  have b11 := below_to b10 b10.size hb
  have ro9 := ro8.below hb
  have rc9 := rc8.below hb
  clear hb r6 b9 b10 ro7 ro8 rc7 rc8
  go_wp2_with fail
  have r7 := reads_lit (xs := [0, 1, 3]) (heap_alloc_new w5 (.cells #[.int .i64 0, .int .i64 1, .int .i64 3] 3)) rfl (by simp)
  have b12 := b11.alloc b11.size (.cells #[.int .i64 0, .int .i64 1, .int .i64 3] 3)
  have ro10 := ro9.below ((Below.refl _ _).alloc (Nat.le_refl _) (.cells #[.int .i64 0, .int .i64 1, .int .i64 3] 3))
  have rc10 := rc9.below ((Below.refl _ _).alloc (Nat.le_refl _) (.cells #[.int .i64 0, .int .i64 1, .int .i64 3] 3))
  refine (ints_same _ _ [0, 1, 3] _ ro10 r7).mono ?_
  rintro e w6 ⟨rfl, m6, rfl⟩
  have b13 := below_to b12 b12.size (below_drewN _ m6)
  have rc11 := rc10.below (below_drewN _ m6)
  clear r7 b11 b12 ro9 ro10 rc9 rc10
  generalize hW6 : World.drewN _ m6 = W6 at *
  clear hW6
  go_wp2_with fail
  have r8 := reads_lit (xs := [1]) (heap_alloc_new W6 (.cells #[.int .i64 1] 3)) rfl (by simp)
  have b14 := b13.alloc b13.size (.cells #[.int .i64 1] 3)
  have rc12 := rc11.below ((Below.refl _ _).alloc (Nat.le_refl _) (.cells #[.int .i64 1] 3))
  refine (ints_same _ _ [1] _ rc12 r8).mono ?_
  rintro e w7 ⟨rfl, m7, rfl⟩
  have b15 := below_to b14 b14.size (below_drewN _ m7)
  clear r8 b13 b14 rc11 rc12
  generalize hW7 : World.drewN _ m7 = W7 at *
  clear hW7
  go_wp2_with fail
  go_ret
  exact ⟨rfl, b15⟩
end Go.Proofs.YtppmgbjdbnedoadDoor

/- PlyCores. -/
set_option linter.unusedVariables false
set_option linter.unusedSimpArgs false
namespace Go.Proofs.YtppmgbjdbnedoadDoor
open Go.RowKit

set_option maxRecDepth 100000 in
set_option maxHeartbeats 3200000 in
theorem PlyCores_walk (sl : Value) (xs : List Int) (w : World) (hr : Reads w sl xs) (hx : ∀ x ∈ xs, -9223372036854775808 ≤ x ∧ x ≤ 9223372036854775807) (hT : Tab w) :
    Calls Tryd.prog 3 #[sl] w fun e w' => e = .returned (.bool true) ∧ Below w.heap.size w w' := by
  clear hx
  rcases hns : spL (xs.take 7) with _ | _
  · have HNS := Lib.hid hns
    clear hns
    generalize hys : xs.take 7 = ys at *
    go_enter Tryd.func3, Tryd.ntmps3
    have hb := Below.refl w.heap.size w
    go_wp2_with fail
    refine (lawList_any _ xs _ hr).mono ?_
    rintro e w1 ⟨l, rfl, hcol⟩
    rw [hys] at hcol
    replace hb := below_to hb hb.size hcol.below
    have rl := hcol.reads
    clear hcol
    clear hr hys
    obtain ⟨la, lc, rfl, _, _, _⟩ := rl.open
    go_wp2_with fail
    refine (Core_no _ ys _ rl HNS.out (hT.below hb)).mono ?_
    rintro e w2 ⟨rfl, hbn⟩
    replace rl := rl.below hbn
    replace hb := below_to hb hb.size hbn
    clear hbn
    go_wp2_with fail
    refine (Turned_no _ ys _ rl HNS.out (hT.below hb)).mono ?_
    rintro e w3 ⟨rfl, hbn⟩
    replace rl := rl.below hbn
    replace hb := below_to hb hb.size hbn
    clear hbn
    go_wp2_with fail
    refine (refSpace_any _ ys _ rl).mono ?_
    rintro e w4 ⟨rfl, hbn⟩
    rw [HNS.out]
    replace rl := rl.below hbn
    replace hb := below_to hb hb.size hbn
    clear hbn
    go_wp2_with fail
    refine (awake_any _ (hT.below hb)).mono ?_
    rintro e w5 ⟨rfl, hbn⟩
    replace rl := rl.below hbn
    replace hb := below_to hb hb.size hbn
    clear hbn
    go_wp2_with fail
    go_ret
    exact ⟨rfl, hb⟩
  · obtain ⟨hc, hs, hx⟩ := spL_get hns
    have HNS := Lib.hid hns
    have HC := Lib.hid hc
    have HS := Lib.hid hs
    have HX := Lib.hid hx
    clear hc hs hx hns
    generalize natsOf (xs.take 7) = cs at *
    generalize hys : xs.take 7 = ys at *
    go_enter Tryd.func3, Tryd.ntmps3
    have hb := Below.refl w.heap.size w
    go_wp2_with fail
    refine (lawList_any _ xs _ hr).mono ?_
    rintro e w1 ⟨l, rfl, hcol⟩
    rw [hys] at hcol
    replace hb := below_to hb hb.size hcol.below
    have rl := hcol.reads
    clear hcol
    clear hr hys
    obtain ⟨la, lc, rfl, _, _, _⟩ := rl.open
    go_wp2_with fail
    have hrc : Reads w1 (.slice la ys.length lc) (ofNats cs) := by rw [← HX.out]; exact rl
    refine (Core_yes _ cs _ hrc HC.out HS.out (hT.below hb)).mono ?_
    rintro e w2 ⟨vc, rfl, hcol⟩
    replace rl := rl.below hcol.below
    replace hrc := hrc.below hcol.below
    replace hb := below_to hb hb.size hcol.below
    have ra := hcol.reads
    clear hcol
    obtain ⟨vc_a, vc_c, rfl, _, _, _⟩ := ra.open
    rw [ofNats_len] at ra ⊢
    go_wp2_with fail
    refine (Turned_yes _ cs _ hrc HC.out HS.out (hT.below hb)).mono ?_
    rintro e w3 ⟨vt, rfl, hcol⟩
    replace rl := rl.below hcol.below
    replace hrc := hrc.below hcol.below
    replace ra := ra.below hcol.below
    replace hb := below_to hb hb.size hcol.below
    have rt := hcol.reads
    clear hcol
    obtain ⟨vt_a, vt_c, rfl, _, _, _⟩ := rt.open
    rw [ofNats_len] at rt ⊢
    go_wp2_with fail
    refine (refSpace_any _ ys _ rl).mono ?_
    rintro e w4 ⟨rfl, hbn⟩
    rw [HNS.out]
    replace rl := rl.below hbn
    replace hrc := hrc.below hbn
    replace ra := ra.below hbn
    replace rt := rt.below hbn
    replace hb := below_to hb hb.size hbn
    clear hbn
    go_wp2_with fail
    refine (refCore_any _ cs _ hrc HC.out HS.out).mono ?_
    rintro e w5 ⟨vd, rfl, hcol⟩
    replace rl := rl.below hcol.below
    replace hrc := hrc.below hcol.below
    replace ra := ra.below hcol.below
    replace rt := rt.below hcol.below
    replace hb := below_to hb hb.size hcol.below
    have rd := hcol.reads
    clear hcol
    obtain ⟨vd_a, vd_c, rfl, _, _, _⟩ := rd.open
    rw [ofNats_len] at rd ⊢
    go_wp2_with fail
    refine (ints_same _ _ _ _ ra rd).mono ?_
    rintro e w6 ⟨rfl, m6, rfl⟩
    replace rl := rl.below (below_drewN _ m6)
    replace hrc := hrc.below (below_drewN _ m6)
    replace ra := ra.below (below_drewN _ m6)
    replace rt := rt.below (below_drewN _ m6)
    replace rd := rd.below (below_drewN _ m6)
    replace hb := below_to hb hb.size (below_drewN _ m6)
    generalize hW6 : World.drewN _ m6 = W6 at *
    clear hW6
    go_wp2_with fail
    refine (refTurned_any _ cs _ hrc HC.out).mono ?_
    rintro e w7 ⟨vu, rfl, hcol⟩
    replace rl := rl.below hcol.below
    replace hrc := hrc.below hcol.below
    replace ra := ra.below hcol.below
    replace rt := rt.below hcol.below
    replace rd := rd.below hcol.below
    replace hb := below_to hb hb.size hcol.below
    have ru := hcol.reads
    clear hcol
    obtain ⟨vu_a, vu_c, rfl, _, _, _⟩ := ru.open
    rw [ofNats_len] at ru ⊢
    go_wp2_with fail
    refine (ints_same _ _ _ _ rt ru).mono ?_
    rintro e w8 ⟨rfl, m8, rfl⟩
    replace rl := rl.below (below_drewN _ m8)
    replace hrc := hrc.below (below_drewN _ m8)
    replace ra := ra.below (below_drewN _ m8)
    replace rt := rt.below (below_drewN _ m8)
    replace rd := rd.below (below_drewN _ m8)
    replace ru := ru.below (below_drewN _ m8)
    replace hb := below_to hb hb.size (below_drewN _ m8)
    generalize hW8 : World.drewN _ m8 = W8 at *
    clear hW8
    go_wp2_with fail
    refine (awake_any _ (hT.below hb)).mono ?_
    rintro e w9 ⟨rfl, hbn⟩
    replace rl := rl.below hbn
    replace hrc := hrc.below hbn
    replace ra := ra.below hbn
    replace rt := rt.below hbn
    replace rd := rd.below hbn
    replace ru := ru.below hbn
    replace hb := below_to hb hb.size hbn
    clear hbn
    go_wp2_with fail
    go_ret
    exact ⟨rfl, hb⟩
end Go.Proofs.YtppmgbjdbnedoadDoor
