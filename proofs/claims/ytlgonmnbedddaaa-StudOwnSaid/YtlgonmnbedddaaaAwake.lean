/- awake: the few simple results that every statement looks at. -/
import Derived.Test.YtlgonmnbedddaaaClear
import Derived.Test.YtlgonmnbedddaaaWc
import Derived.Test.YtlgonmnbedddaaaCnt
set_option linter.unusedVariables false
set_option linter.unusedSimpArgs false
namespace Go.Proofs.Ytlgonmnbedddaaa
open Go.RowKit

theorem take_eq_succ {xs ys : List Int} {k : Nat} (h1 : k < xs.length) (h2 : k < ys.length) (h : xs.take k = ys.take k) (he : gi xs k = gi ys k) : xs.take (k + 1) = ys.take (k + 1) := by
  rw [List.take_succ_eq_append_getElem h1, List.take_succ_eq_append_getElem h2, h, ← gi_lt h1, ← gi_lt h2, he]

set_option maxRecDepth 100000 in
set_option maxHeartbeats 800000 in
theorem ints_any (v u : Value) (xs ys : List Int) (w : World) (hr : Reads w v xs) (hs : Reads w u ys) :
    Calls Try.prog 12 #[v, u] w fun e w' => e = .returned (.bool (decide (xs = ys))) ∧ ∃ n, w' = w.drewN n := by
  obtain ⟨a, cap, rfl, h1, h2, hcell⟩ := hr.open
  obtain ⟨a2, cap2, rfl, h12, h22, hcell2⟩ := hs.open
  have h3 : xs.length ≤ 9223372036854775807 := by unfold maxLen at h2; omega
  clear h2 h22
  by_cases hl : xs.length = ys.length
  · have hl' : ((xs.length : Int) == (ys.length : Int)) = true := by simp [hl]
    have hl2 : (!((xs.length : Int) == (ys.length : Int))) = false := by simp [hl]
    have HL := Lib.hid hl
    clear hl
    go_enter Try.func12, Try.ntmps12
    go_wp2_with fail
    go_loopw [5] (fun i wr => ∃ k m : Nat, k ≤ xs.length ∧ i = .int .i64 k ∧ xs.take k = ys.take k ∧ wr = w.drewN m) (fun i _ => xs.length - (intOf i).toNat)
    case atStart => exact ⟨0, 0, by omega, rfl, by simp, rfl⟩
    case round =>
      obtain ⟨k, m, hk, rfl, ht, rfl⟩ := hrel
      have HT := Lib.hid ht
      clear ht
      by_cases hlt : k < xs.length
      · obtain ⟨b, off, rfl, hb, hc⟩ := hcell k hlt
        obtain ⟨b2, off2, rfl, hb2, hc2⟩ := hcell2 k (by have := HL.out; omega)
        clear hcell hcell2
        have hk0 : (0 : Int) ≤ (k : Int) := by omega
        have hk1 : (k : Int) < (xs.length : Int) := by omega
        have hk2 : (k : Int) < (ys.length : Int) := by have := HL.out; omega
        go_wp2_with fail
        go_quiet (fail)
        by_cases he : gi xs k = gi ys k
        · have he' : ((gi xs k) == (gi ys k)) = true := by simp [he]
          have HE := Lib.hid he
          clear he
          go_wp2
          go_roundw
          case rel => exact ⟨k + 1, _, by omega, by go_num, take_eq_succ hlt (by have := HL.out; omega) HT.out HE.out, rfl⟩
          case measure => simp [intOf]; omega
        · have he' : ((gi xs k) == (gi ys k)) = false := by simp [he]
          have HE := Lib.hid he
          clear he
          go_wp2
          go_ret
          refine ⟨ret_bool ?_, _, by first | rfl | exact World.drewN_drewN ..⟩
          symm
          rw [decide_eq_false_iff_not]
          rintro rfl; exact HE.out rfl
      · go_wp2_with fail
        go_ret
        refine ⟨ret_bool ?_, _, rfl⟩
        symm
        rw [decide_eq_true_eq]
        have h := HT.out
        have h9 := HL.out
        rwa [List.take_of_length_le (by omega), List.take_of_length_le (by omega)] at h
  · have hl' : ((xs.length : Int) == (ys.length : Int)) = false := by
      rw [beq_eq_false_iff_ne]; intro h; exact hl (by exact_mod_cast h)
    have HL := Lib.hid hl
    clear hl
    go_enter Try.func12, Try.ntmps12
    go_wp2_with fail
    go_ret
    refine ⟨ret_bool ?_, 0, rfl⟩
    symm
    rw [decide_eq_false_iff_not]
    rintro rfl; exact HL.out rfl

theorem ints_same (v u : Value) (xs : List Int) (w : World) (hr : Reads w v xs) (hs : Reads w u xs) :
    Calls Try.prog 12 #[v, u] w fun e w' => e = .returned (.bool true) ∧ ∃ n, w' = w.drewN n :=
  (ints_any v u xs xs w hr hs).mono fun e w' h => ⟨by rw [h.1, decide_eq_true rfl], h.2⟩
/-- a slice of no numbers shows its length -/
theorem reads_nil {w : World} {v : Value} (h : Reads w v []) : ∃ a cap, v = .slice a 0 cap := by
  obtain ⟨a, cap, h1, _⟩ := h
  exact ⟨a, cap, h1⟩

theorem reads_lit {w : World} {b : Nat} {xs : List Int} {cs : Array Value} {t : TypeId} (h : w.heap[b]? = some (.cells cs t)) (hc : cs = (xs.map (Value.int .i64)).toArray) (hl : xs.length ≤ 1000) : Reads w (.slice (some ⟨b, 0, none⟩) xs.length xs.length) xs := by
  subst hc
  refine ⟨_, xs.length, rfl, Nat.le_refl _, by simp [maxLen]; omega, .inr ⟨b, 0, rfl, heap_lt h, fun j hj => ?_⟩⟩
  rw [Nat.zero_add, cell_of_row _ _ _ _ _ _ h, gi_lt hj]
  simp [hj]

theorem aw1 : clearS [0, 1, 3, 2] = .tuple #[.agg #[.int .i64 0, .int .i64 0, .int .i64 0, .int .i64 0], .bool true, .int .i64 0] := by kernel_rfl
theorem aw2 : clearS [0, 1, 2] = .tuple #[.agg #[.int .i64 0, .int .i64 1, .int .i64 1, .int .i64 2], .bool false, .int .i64 0] := by kernel_rfl
theorem aw3 : powersS 7 3 0 = ([0, 2, 1, 5, 3, 4], 0) := by kernel_rfl
theorem aw4 : logsS 5 2 2 = ([1, 0, 2], 0) := by kernel_rfl
theorem aw5 : countS 5 = (40, 0) := by kernel_rfl

set_option maxRecDepth 100000 in
set_option maxHeartbeats 3200000 in
theorem awake_any (w : World) : Calls Try.prog 14 #[] w fun e w' => e = .returned (.bool true) ∧ Below w.heap.size w w' := by
  have r1 := reads_lit (xs := [0, 1, 3, 2]) (heap_alloc_new w (.cells #[.int .i64 0, .int .i64 1, .int .i64 3, .int .i64 2] 3)) rfl (by simp)
  go_enter Try.func14, Try.ntmps14
  go_wp2_with fail
  refine (Clear_any (.slice (some ⟨w.heap.size, 0, none⟩) 4 4) [0, 1, 3, 2] (w.alloc (.cells #[.int .i64 0, .int .i64 1, .int .i64 3, .int .i64 2] 3)) r1).mono ?_
  rintro e w1 ⟨rfl, hb1⟩
  rw [aw1]
  go_wp2_with fail
  have r2 := reads_lit (xs := [0, 1, 2]) (heap_alloc_at (w1.alloc (.cells #[.int .i64 0, .int .i64 0, .int .i64 0, .int .i64 0] 34)) (.cells #[.int .i64 0, .int .i64 1, .int .i64 2] 3) (w1.heap.size + 1) (by simp)) rfl (by simp)
  refine (Clear_any (.slice (some ⟨w1.heap.size + 1, 0, none⟩) 3 3) [0, 1, 2] ((w1.alloc (.cells #[.int .i64 0, .int .i64 0, .int .i64 0, .int .i64 0] 34)).alloc (.cells #[.int .i64 0, .int .i64 1, .int .i64 2] 3)) r2).mono ?_
  rintro e w2 ⟨rfl, hb2⟩
  rw [aw2]
  have b2 : Below w.heap.size w w2 := by
    have h1 : Below w.heap.size w w1 := ((Below.refl _ w).alloc (Nat.le_refl _) _).trans (hb1.mono (by simp))
    have h2 := (h1.alloc h1.size (.cells #[.int .i64 0, .int .i64 0, .int .i64 0, .int .i64 0] 34)).alloc (by have := h1.size; simp; omega) (.cells #[.int .i64 0, .int .i64 1, .int .i64 2] 3)
    exact h2.trans (hb2.mono (by have := h1.size; simp; omega))
  clear hb1 hb2 r1 r2
  go_wp2_with fail
  have hx : ∀ w3, Below (w2.heap.size + 1) (w2.alloc (.cells #[.int .i64 0, .int .i64 1, .int .i64 1, .int .i64 2] 34)) w3 → w3.heap[w2.heap.size]? = some (.cells #[.int .i64 0, .int .i64 1, .int .i64 1, .int .i64 2] 34) := fun w3 h => (h.block _ (by omega)).trans (heap_alloc_new _ _)
  have b3 := b2.alloc b2.size (.cells #[.int .i64 0, .int .i64 1, .int .i64 1, .int .i64 2] 34)
  have z3 : (w2.alloc (.cells #[.int .i64 0, .int .i64 1, .int .i64 1, .int .i64 2] 34)).heap.size = w2.heap.size + 1 := by simp
  generalize hW3 : World.alloc w2 _ = W3 at b3 z3 hx ⊢
  clear hW3
  refine (Powers_any 7 3 0 W3 (by omega)).mono ?_
  rintro e w4 ⟨vp, rfl, hcp⟩
  rw [aw3] at hcp ⊢
  go_wp2_with fail
  refine (Logs_any 5 2 2 w4 (by omega)).mono ?_
  rintro e w5 ⟨vl, rfl, hcl⟩
  rw [aw4] at hcl ⊢
  go_wp2_with fail
  refine (Count_any 5 w5).mono ?_
  rintro e w6 ⟨rfl, hb6⟩
  rw [aw5]
  have h46 : Below w4.heap.size w4 w6 := hcl.below.trans (hb6.mono hcl.below.size)
  have h36 : Below W3.heap.size W3 w6 := hcp.below.trans (h46.mono hcp.below.size)
  have b6 : Below w.heap.size w w6 := b3.trans (h36.mono b3.size)
  have hx6 := hx w6 (by rw [z3] at h36; exact h36)
  have rp : Reads w6 vp [0, 2, 1, 5, 3, 4] := hcp.reads.below h46
  have rl : Reads w6 vl [1, 0, 2] := hcl.reads.below hb6
  have x0 := cell_of hx6 (j := 0) rfl
  have x1 := cell_of hx6 (j := 1) rfl
  have x2 := cell_of hx6 (j := 2) rfl
  have x3 := cell_of hx6 (j := 3) rfl
  clear hx hcp hcl hb6 h46 h36
  have hne : ∀ w, (binOp .neq 34 (.agg #[.int .i64 0, .int .i64 1, .int .i64 1, .int .i64 2]) (.agg #[.int .i64 0, .int .i64 1, .int .i64 1, .int .i64 2])).run Try.prog w = .ok (.bool false) w := fun w => by kernel_rfl
  go_wp2_with fail
  have r7 := reads_lit (xs := [0, 2, 1, 5, 3, 4]) (heap_alloc_new w6 (.cells #[.int .i64 0, .int .i64 2, .int .i64 1, .int .i64 5, .int .i64 3, .int .i64 4] 3)) rfl (by simp)
  have b7 := b6.alloc b6.size (.cells #[.int .i64 0, .int .i64 2, .int .i64 1, .int .i64 5, .int .i64 3, .int .i64 4] 3)
  have rp7 := rp.below ((Below.refl _ _).alloc (Nat.le_refl _) (.cells #[.int .i64 0, .int .i64 2, .int .i64 1, .int .i64 5, .int .i64 3, .int .i64 4] 3))
  have rl7 := rl.below ((Below.refl _ _).alloc (Nat.le_refl _) (.cells #[.int .i64 0, .int .i64 2, .int .i64 1, .int .i64 5, .int .i64 3, .int .i64 4] 3))
  generalize hW7 : World.alloc w6 _ = W7 at b7 r7 rp7 rl7 ⊢
  clear hW7
  refine (ints_any vp (.slice (some ⟨w6.heap.size, 0, none⟩) 6 6) [0, 2, 1, 5, 3, 4] [0, 2, 1, 5, 3, 4] W7 rp7 r7).mono ?_
  rintro e w8 ⟨rfl, m8, rfl⟩
  rw [show decide (([0, 2, 1, 5, 3, 4] : List Int) = [0, 2, 1, 5, 3, 4]) = true from rfl]
  have b8 := b7.trans ((below_drewN W7 m8).mono b7.size)
  have rl8 := rl7.below (below_drewN W7 m8)
  generalize hW8 : World.drewN W7 m8 = W8 at b8 rl8 ⊢
  clear hW8
  go_wp2_with fail
  have r9 := reads_lit (xs := [1, 0, 2]) (heap_alloc_new W8 (.cells #[.int .i64 1, .int .i64 0, .int .i64 2] 3)) rfl (by simp)
  have b9 := b8.alloc b8.size (.cells #[.int .i64 1, .int .i64 0, .int .i64 2] 3)
  have rl9 := rl8.below ((Below.refl _ _).alloc (Nat.le_refl _) (.cells #[.int .i64 1, .int .i64 0, .int .i64 2] 3))
  generalize hW9 : World.alloc W8 _ = W9 at b9 r9 rl9 ⊢
  clear hW9
  refine (ints_any vl (.slice (some ⟨W8.heap.size, 0, none⟩) 3 3) [1, 0, 2] [1, 0, 2] W9 rl9 r9).mono ?_
  rintro e w10 ⟨rfl, m10, rfl⟩
  rw [show decide (([1, 0, 2] : List Int) = [1, 0, 2]) = true from rfl]
  have b10 := b9.trans ((below_drewN W9 m10).mono b9.size)
  generalize hW10 : World.drewN W9 m10 = W10 at b10 ⊢
  clear hW10
  go_wp2_with fail
  go_ret
  exact ⟨rfl, b10⟩
end Go.Proofs.Ytlgonmnbedddaaa
