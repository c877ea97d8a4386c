/- turned: the symmetry by its number. -/
import Derived.Test.YtlgonmnbedddaaaTurnA
import Derived.Test.YtlgonmnbedddaaaMat
import Derived.Test.YtlgonmnbedddaaaRev
import Derived.Laws.EntriesVeiled
set_option linter.unusedVariables false
set_option linter.unusedSimpArgs false
namespace Go.Proofs.Ytlgonmnbedddaaa
open Go.RowKit

theorem ordB_mk {xs : List Int} {n : Nat} (hl : xs.length = n) (h1 : 1 ≤ n) (h2 : n ≤ 16) (hr : ∀ i, i < n → 0 ≤ gi xs i ∧ gi xs i < n) (hd : ∀ i k, i < k → k < n → gi xs i ≠ gi xs k) : ordB xs = true := by
  simp only [ordB, decide_eq_true_eq]
  subst hl
  refine ⟨h1, h2, fun x hx => ?_, ?_⟩
  · obtain ⟨j, hj, rfl⟩ := List.getElem_of_mem hx
    have := hr j hj; rwa [gi_lt hj] at this
  · rw [List.nodup_iff_pairwise_ne, List.pairwise_iff_getElem]
    intro i j hi hj hij
    have := hd i j hij hj
    rwa [gi_lt hi, gi_lt hj] at this
theorem ordB_dist {xs : List Int} (ho : ordB xs = true) {i k : Nat} (hik : i < k) (hk : k < xs.length) : gi xs i ≠ gi xs k := by
  simp only [ordB, decide_eq_true_eq] at ho
  have h := ho.2.2.2
  rw [List.nodup_iff_pairwise_ne, List.pairwise_iff_getElem] at h
  rw [gi_lt hk, gi_lt (by omega)]
  exact h i k (by omega) hk hik

theorem gi_mir {xs : List Int} {i : Nat} (hi : i < xs.length) : gi (mirTo xs xs.length) i = (xs.length : Int) - 1 - gi xs i := by
  rw [gi_lt (by rw [mirTo_len (Nat.le_refl _)]; exact hi), gi_lt hi]; simp [mirTo]
theorem excL_len (xs : List Int) : (excL xs).length = xs.length := by simp [excL]
theorem gi_exc {xs : List Int} {i : Nat} (hi : i < xs.length) : gi (excL xs) i = (xs.idxOf (i : Int) : Nat) := by
  rw [gi_lt (by rw [excL_len]; exact hi)]; simp [excL]
theorem gi_rev {xs : List Int} {i : Nat} (hi : i < xs.length) : gi xs.reverse i = gi xs (xs.length - 1 - i) := by
  rw [gi_lt (by simpa using hi), gi_lt (by omega), List.getElem_reverse]

theorem ord_rev {xs : List Int} (ho : ordB xs = true) : ordB xs.reverse = true := by
  obtain ⟨hl1, hl2⟩ := ordB_len ho
  refine ordB_mk (n := xs.length) (by simp) hl1 hl2 (fun i hi => ?_) (fun i k hik hk => ?_)
  · rw [gi_rev hi]; have := ordB_under ho (xs.length - 1 - i); omega
  · rw [gi_rev hk, gi_rev (by omega)]; exact (ordB_dist ho (by omega) (by omega)).symm
theorem ord_mir {xs : List Int} (ho : ordB xs = true) : ordB (mirTo xs xs.length) = true := by
  obtain ⟨hl1, hl2⟩ := ordB_len ho
  refine ordB_mk (mirTo_len (Nat.le_refl _)) hl1 hl2 (fun i hi => ?_) (fun i k hik hk => ?_)
  · rw [gi_mir hi]; have := ordB_under ho i; omega
  · rw [gi_mir hk, gi_mir (by omega)]; have := ordB_dist ho hik hk; omega
theorem exc_spec {xs : List Int} (ho : ordB xs = true) {j : Nat} (hj : j < xs.length) : xs.idxOf (j : Int) < xs.length ∧ gi xs (xs.idxOf (j : Int)) = j := by
  have hm := perm_mem ho hj
  have h1 := List.idxOf_lt_length_of_mem hm
  exact ⟨h1, by rw [gi_lt h1]; exact List.getElem_idxOf _⟩
theorem ord_exc {xs : List Int} (ho : ordB xs = true) : ordB (excL xs) = true := by
  obtain ⟨hl1, hl2⟩ := ordB_len ho
  refine ordB_mk (excL_len _) hl1 hl2 (fun i hi => ?_) (fun i k hik hk => ?_)
  · rw [gi_exc hi]; have := (exc_spec ho hi).1; omega
  · rw [gi_exc hk, gi_exc (by omega)]
    intro he
    have h1 := (exc_spec ho hk).2
    have h2 := (exc_spec ho (show i < xs.length by omega)).2
    have h3 : xs.idxOf (i : Int) = xs.idxOf (k : Int) := by omega
    rw [h3] at h2
    omega

def stageF : Nat → List Int → List Int
  | 0, ys => ys.reverse
  | 1, ys => mirTo ys ys.length
  | _, ys => excL ys
def stage (xs : List Int) (s : Nat) : Nat → List Int
  | 0 => xs
  | k + 1 => if s.testBit k = true then stageF k (stage xs s k) else stage xs s k
def turnL (xs : List Int) (s : Nat) : List Int := stage xs s 3
theorem ord_stageF {ys : List Int} (k : Nat) (ho : ordB ys = true) : ordB (stageF k ys) = true := by
  unfold stageF
  split
  · exact ord_rev ho
  · exact ord_mir ho
  · exact ord_exc ho
theorem len_stageF (ys : List Int) (k : Nat) : (stageF k ys).length = ys.length := by
  unfold stageF
  split
  · simp
  · exact mirTo_len (Nat.le_refl _)
  · exact excL_len _
theorem ord_stage {xs : List Int} (ho : ordB xs = true) (s : Nat) : ∀ k, ordB (stage xs s k) = true
  | 0 => ho
  | k + 1 => by
    unfold stage
    split
    · exact ord_stageF k (ord_stage ho s k)
    · exact ord_stage ho s k
theorem len_stage (xs : List Int) (s : Nat) : ∀ k, (stage xs s k).length = xs.length
  | 0 => rfl
  | k + 1 => by
    unfold stage
    split
    · rw [len_stageF, len_stage xs s k]
    · exact len_stage xs s k
theorem stage_yes {xs : List Int} {s k : Nat} (h : s.testBit k = true) : stage xs s (k + 1) = stageF k (stage xs s k) := by rw [stage, if_pos h]
theorem stage_no {xs : List Int} {s k : Nat} (h : s.testBit k = false) : stage xs s (k + 1) = stage xs s k := by rw [stage, if_neg (by simp [h])]

/-- 'v' reads 'xs'; where 'T' is so, it is a row in memory that holds ints alone -/
def RF (T : Prop) (w : World) (v : Value) (xs : List Int) : Prop := Reads w v xs ∧ (T → OwnRow 0 w v xs)
theorem RF.below {T : Prop} {w w' : World} {v : Value} {xs : List Int} (h : RF T w v xs) (hb : Below w.heap.size w w') : RF T w' v xs := ⟨h.1.below hb, fun t => (h.2 t).below hb⟩
theorem RF.own {T : Prop} {B : Nat} {w : World} {v : Value} {xs : List Int} (h : OwnRow B w v xs) : RF T w v xs := ⟨h.reads, fun _ => h.mono (Nat.zero_le _)⟩

/-- the three functions of the table, each by its place -/
theorem sym_any (T : Prop) (k : Nat) (v : Value) (ys : List Int) (w : World) (hr0 : RF T w v ys) (ho : ordB ys = true) :
    Calls Try.prog (match k with | 0 => 35 | 1 => 36 | _ => 37) #[v] w fun e w' => ∃ v', e = .returned v' ∧ RF T w' v' (stageF k ys) ∧ Below w.heap.size w w' := by
  have hr := hr0.1
  match k with
  | 0 => exact (reversed_any v ys w hr ho).mono fun e w' ⟨v', h1, h2⟩ => ⟨v', h1, RF.own h2.own, h2.below⟩
  | 1 => exact (mirrored_any v ys w hr ho).mono fun e w' ⟨v', h1, h2⟩ => ⟨v', h1, RF.own h2.own, h2.below⟩
  | _ + 2 => exact (exchanged_any v ys w hr ho).mono fun e w' ⟨v', h1, h2, h3⟩ => ⟨v', h1, RF.own h2, h3⟩

theorem stage_no_of {w : World} {v : Value} {xs : List Int} {s k : Nat} (h : Reads w v (stage xs s k)) (hb : s.testBit k = false) : Reads w v (stage xs s (k + 1)) := by rw [stage_no hb]; exact h
theorem stage_yes_of {w : World} {v : Value} {xs : List Int} {s k : Nat} (h : Reads w v (stageF k (stage xs s k))) (hb : s.testBit k = true) : Reads w v (stage xs s (k + 1)) := by rw [stage_yes hb]; exact h
theorem stageR_no_of {T : Prop} {w : World} {v : Value} {xs : List Int} {s k : Nat} (h : RF T w v (stage xs s k)) (hb : s.testBit k = false) : RF T w v (stage xs s (k + 1)) := by rw [stage_no hb]; exact h
theorem stageR_yes_of {T : Prop} {w : World} {v : Value} {xs : List Int} {s k : Nat} (h : RF T w v (stageF k (stage xs s k))) (hb : s.testBit k = true) : RF T w v (stage xs s (k + 1)) := by rw [stage_yes hb]; exact h

set_option maxRecDepth 100000 in
set_option maxHeartbeats 1600000 in
theorem turned_0 (T : Prop) (v : Value) (xs : List Int) (w : World) (hr : RF T w v xs) (ho : ordB xs = true) :
    Calls Try.prog 19 #[v, .int .i64 0] w fun e w' => ∃ v', e = .returned v' ∧ RF T w' v' (turnL xs 0) ∧ Below w.heap.size w w' := by
  go_enter Try.func19, Try.ntmps19
  go_wp2_with fail
  have hF : (w.alloc (.cells #[.func (.func 35) #[] #[], .func (.func 36) #[] #[], .func (.func 37) #[] #[]] 49)).heap[w.heap.size]? = some (.cells #[.func (.func 35) #[] #[], .func (.func 36) #[] #[], .func (.func 37) #[] #[]] 49) := heap_alloc_new _ _
  have hb0 := (Below.refl w.heap.size w).alloc (Nat.le_refl _) (.cells #[.func (.func 35) #[] #[], .func (.func 36) #[] #[], .func (.func 37) #[] #[]] 49)
  have hr0 := hr.below hb0
  generalize hW0 : World.alloc w _ = W0 at hF hb0 hr0 ⊢
  clear hW0 hr
  go_loopw [0, 9] (fun v i wr => ∃ k : Nat, k ≤ 3 ∧ i = .int .i64 k ∧ RF T wr v (stage xs 0 k) ∧ Below w.heap.size w wr ∧ wr.heap[w.heap.size]? = some (.cells #[.func (.func 35) #[] #[], .func (.func 36) #[] #[], .func (.func 37) #[] #[]] 49)) (fun _ i _ => 3 - (intOf i).toNat)
  case atStart => exact ⟨0, by omega, rfl, hr0, hb0, hF⟩
  case round =>
    obtain ⟨k, hk, rfl, hrd, hb, hcells⟩ := hrel
    have hlt := heap_lt hcells
    have hord := ord_stage ho 0 k
    by_cases hlt3 : k < 3
    · have hk3 : k = 0 ∨ k = 1 ∨ k = 2 := by omega
      rcases hk3 with rfl | rfl | rfl
      all_goals
        have c0 := cell_of hcells (j := 0) rfl
        have c1 := cell_of hcells (j := 1) rfl
        have c2 := cell_of hcells (j := 2) rfl
        first
          | (have hrd2 := stageR_no_of hrd (by decide)
             go_wp2_with fail
             go_roundw
             case rel => exact ⟨_, by decide, rfl, hrd2, hb, hcells⟩
             case measure => decide)
          | (go_wp2_with fail
             first
               | refine (sym_any T 0 _ _ _ hrd hord).mono ?_
               | refine (sym_any T 1 _ _ _ hrd hord).mono ?_
               | refine (sym_any T 2 _ _ _ hrd hord).mono ?_
             rintro e w2 ⟨v2, rfl, hr2, hb2⟩
             have hcells2 := (hb2.block _ hlt).trans hcells
             have hb3 := hb.trans (hb2.mono hb.size)
             have hrd2 := stageR_yes_of hr2 (by decide)
             go_wp2_with fail
             go_roundw
             case rel => exact ⟨_, by decide, rfl, hrd2, hb3, hcells2⟩
             case measure => simp [intOf])
    · have hk3 : k = 3 := by omega
      subst hk3
      go_wp2_with fail
      go_ret
      exact ⟨_, rfl, hrd, hb⟩

set_option maxRecDepth 100000 in
set_option maxHeartbeats 1600000 in
theorem turned_1 (T : Prop) (v : Value) (xs : List Int) (w : World) (hr : RF T w v xs) (ho : ordB xs = true) :
    Calls Try.prog 19 #[v, .int .i64 1] w fun e w' => ∃ v', e = .returned v' ∧ RF T w' v' (turnL xs 1) ∧ Below w.heap.size w w' := by
  go_enter Try.func19, Try.ntmps19
  go_wp2_with fail
  have hF : (w.alloc (.cells #[.func (.func 35) #[] #[], .func (.func 36) #[] #[], .func (.func 37) #[] #[]] 49)).heap[w.heap.size]? = some (.cells #[.func (.func 35) #[] #[], .func (.func 36) #[] #[], .func (.func 37) #[] #[]] 49) := heap_alloc_new _ _
  have hb0 := (Below.refl w.heap.size w).alloc (Nat.le_refl _) (.cells #[.func (.func 35) #[] #[], .func (.func 36) #[] #[], .func (.func 37) #[] #[]] 49)
  have hr0 := hr.below hb0
  generalize hW0 : World.alloc w _ = W0 at hF hb0 hr0 ⊢
  clear hW0 hr
  go_loopw [0, 9] (fun v i wr => ∃ k : Nat, k ≤ 3 ∧ i = .int .i64 k ∧ RF T wr v (stage xs 1 k) ∧ Below w.heap.size w wr ∧ wr.heap[w.heap.size]? = some (.cells #[.func (.func 35) #[] #[], .func (.func 36) #[] #[], .func (.func 37) #[] #[]] 49)) (fun _ i _ => 3 - (intOf i).toNat)
  case atStart => exact ⟨0, by omega, rfl, hr0, hb0, hF⟩
  case round =>
    obtain ⟨k, hk, rfl, hrd, hb, hcells⟩ := hrel
    have hlt := heap_lt hcells
    have hord := ord_stage ho 1 k
    by_cases hlt3 : k < 3
    · have hk3 : k = 0 ∨ k = 1 ∨ k = 2 := by omega
      rcases hk3 with rfl | rfl | rfl
      all_goals
        have c0 := cell_of hcells (j := 0) rfl
        have c1 := cell_of hcells (j := 1) rfl
        have c2 := cell_of hcells (j := 2) rfl
        first
          | (have hrd2 := stageR_no_of hrd (by decide)
             go_wp2_with fail
             go_roundw
             case rel => exact ⟨_, by decide, rfl, hrd2, hb, hcells⟩
             case measure => decide)
          | (go_wp2_with fail
             first
               | refine (sym_any T 0 _ _ _ hrd hord).mono ?_
               | refine (sym_any T 1 _ _ _ hrd hord).mono ?_
               | refine (sym_any T 2 _ _ _ hrd hord).mono ?_
             rintro e w2 ⟨v2, rfl, hr2, hb2⟩
             have hcells2 := (hb2.block _ hlt).trans hcells
             have hb3 := hb.trans (hb2.mono hb.size)
             have hrd2 := stageR_yes_of hr2 (by decide)
             go_wp2_with fail
             go_roundw
             case rel => exact ⟨_, by decide, rfl, hrd2, hb3, hcells2⟩
             case measure => simp [intOf])
    · have hk3 : k = 3 := by omega
      subst hk3
      go_wp2_with fail
      go_ret
      exact ⟨_, rfl, hrd, hb⟩

set_option maxRecDepth 100000 in
set_option maxHeartbeats 1600000 in
theorem turned_2 (T : Prop) (v : Value) (xs : List Int) (w : World) (hr : RF T w v xs) (ho : ordB xs = true) :
    Calls Try.prog 19 #[v, .int .i64 2] w fun e w' => ∃ v', e = .returned v' ∧ RF T w' v' (turnL xs 2) ∧ Below w.heap.size w w' := by
  go_enter Try.func19, Try.ntmps19
  go_wp2_with fail
  have hF : (w.alloc (.cells #[.func (.func 35) #[] #[], .func (.func 36) #[] #[], .func (.func 37) #[] #[]] 49)).heap[w.heap.size]? = some (.cells #[.func (.func 35) #[] #[], .func (.func 36) #[] #[], .func (.func 37) #[] #[]] 49) := heap_alloc_new _ _
  have hb0 := (Below.refl w.heap.size w).alloc (Nat.le_refl _) (.cells #[.func (.func 35) #[] #[], .func (.func 36) #[] #[], .func (.func 37) #[] #[]] 49)
  have hr0 := hr.below hb0
  generalize hW0 : World.alloc w _ = W0 at hF hb0 hr0 ⊢
  clear hW0 hr
  go_loopw [0, 9] (fun v i wr => ∃ k : Nat, k ≤ 3 ∧ i = .int .i64 k ∧ RF T wr v (stage xs 2 k) ∧ Below w.heap.size w wr ∧ wr.heap[w.heap.size]? = some (.cells #[.func (.func 35) #[] #[], .func (.func 36) #[] #[], .func (.func 37) #[] #[]] 49)) (fun _ i _ => 3 - (intOf i).toNat)
  case atStart => exact ⟨0, by omega, rfl, hr0, hb0, hF⟩
  case round =>
    obtain ⟨k, hk, rfl, hrd, hb, hcells⟩ := hrel
    have hlt := heap_lt hcells
    have hord := ord_stage ho 2 k
    by_cases hlt3 : k < 3
    · have hk3 : k = 0 ∨ k = 1 ∨ k = 2 := by omega
      rcases hk3 with rfl | rfl | rfl
      all_goals
        have c0 := cell_of hcells (j := 0) rfl
        have c1 := cell_of hcells (j := 1) rfl
        have c2 := cell_of hcells (j := 2) rfl
        first
          | (have hrd2 := stageR_no_of hrd (by decide)
             go_wp2_with fail
             go_roundw
             case rel => exact ⟨_, by decide, rfl, hrd2, hb, hcells⟩
             case measure => decide)
          | (go_wp2_with fail
             first
               | refine (sym_any T 0 _ _ _ hrd hord).mono ?_
               | refine (sym_any T 1 _ _ _ hrd hord).mono ?_
               | refine (sym_any T 2 _ _ _ hrd hord).mono ?_
             rintro e w2 ⟨v2, rfl, hr2, hb2⟩
             have hcells2 := (hb2.block _ hlt).trans hcells
             have hb3 := hb.trans (hb2.mono hb.size)
             have hrd2 := stageR_yes_of hr2 (by decide)
             go_wp2_with fail
             go_roundw
             case rel => exact ⟨_, by decide, rfl, hrd2, hb3, hcells2⟩
             case measure => simp [intOf])
    · have hk3 : k = 3 := by omega
      subst hk3
      go_wp2_with fail
      go_ret
      exact ⟨_, rfl, hrd, hb⟩

set_option maxRecDepth 100000 in
set_option maxHeartbeats 1600000 in
theorem turned_3 (T : Prop) (v : Value) (xs : List Int) (w : World) (hr : RF T w v xs) (ho : ordB xs = true) :
    Calls Try.prog 19 #[v, .int .i64 3] w fun e w' => ∃ v', e = .returned v' ∧ RF T w' v' (turnL xs 3) ∧ Below w.heap.size w w' := by
  go_enter Try.func19, Try.ntmps19
  go_wp2_with fail
  have hF : (w.alloc (.cells #[.func (.func 35) #[] #[], .func (.func 36) #[] #[], .func (.func 37) #[] #[]] 49)).heap[w.heap.size]? = some (.cells #[.func (.func 35) #[] #[], .func (.func 36) #[] #[], .func (.func 37) #[] #[]] 49) := heap_alloc_new _ _
  have hb0 := (Below.refl w.heap.size w).alloc (Nat.le_refl _) (.cells #[.func (.func 35) #[] #[], .func (.func 36) #[] #[], .func (.func 37) #[] #[]] 49)
  have hr0 := hr.below hb0
  generalize hW0 : World.alloc w _ = W0 at hF hb0 hr0 ⊢
  clear hW0 hr
  go_loopw [0, 9] (fun v i wr => ∃ k : Nat, k ≤ 3 ∧ i = .int .i64 k ∧ RF T wr v (stage xs 3 k) ∧ Below w.heap.size w wr ∧ wr.heap[w.heap.size]? = some (.cells #[.func (.func 35) #[] #[], .func (.func 36) #[] #[], .func (.func 37) #[] #[]] 49)) (fun _ i _ => 3 - (intOf i).toNat)
  case atStart => exact ⟨0, by omega, rfl, hr0, hb0, hF⟩
  case round =>
    obtain ⟨k, hk, rfl, hrd, hb, hcells⟩ := hrel
    have hlt := heap_lt hcells
    have hord := ord_stage ho 3 k
    by_cases hlt3 : k < 3
    · have hk3 : k = 0 ∨ k = 1 ∨ k = 2 := by omega
      rcases hk3 with rfl | rfl | rfl
      all_goals
        have c0 := cell_of hcells (j := 0) rfl
        have c1 := cell_of hcells (j := 1) rfl
        have c2 := cell_of hcells (j := 2) rfl
        first
          | (have hrd2 := stageR_no_of hrd (by decide)
             go_wp2_with fail
             go_roundw
             case rel => exact ⟨_, by decide, rfl, hrd2, hb, hcells⟩
             case measure => decide)
          | (go_wp2_with fail
             first
               | refine (sym_any T 0 _ _ _ hrd hord).mono ?_
               | refine (sym_any T 1 _ _ _ hrd hord).mono ?_
               | refine (sym_any T 2 _ _ _ hrd hord).mono ?_
             rintro e w2 ⟨v2, rfl, hr2, hb2⟩
             have hcells2 := (hb2.block _ hlt).trans hcells
             have hb3 := hb.trans (hb2.mono hb.size)
             have hrd2 := stageR_yes_of hr2 (by decide)
             go_wp2_with fail
             go_roundw
             case rel => exact ⟨_, by decide, rfl, hrd2, hb3, hcells2⟩
             case measure => simp [intOf])
    · have hk3 : k = 3 := by omega
      subst hk3
      go_wp2_with fail
      go_ret
      exact ⟨_, rfl, hrd, hb⟩

set_option maxRecDepth 100000 in
set_option maxHeartbeats 1600000 in
theorem turned_4 (T : Prop) (v : Value) (xs : List Int) (w : World) (hr : RF T w v xs) (ho : ordB xs = true) :
    Calls Try.prog 19 #[v, .int .i64 4] w fun e w' => ∃ v', e = .returned v' ∧ RF T w' v' (turnL xs 4) ∧ Below w.heap.size w w' := by
  go_enter Try.func19, Try.ntmps19
  go_wp2_with fail
  have hF : (w.alloc (.cells #[.func (.func 35) #[] #[], .func (.func 36) #[] #[], .func (.func 37) #[] #[]] 49)).heap[w.heap.size]? = some (.cells #[.func (.func 35) #[] #[], .func (.func 36) #[] #[], .func (.func 37) #[] #[]] 49) := heap_alloc_new _ _
  have hb0 := (Below.refl w.heap.size w).alloc (Nat.le_refl _) (.cells #[.func (.func 35) #[] #[], .func (.func 36) #[] #[], .func (.func 37) #[] #[]] 49)
  have hr0 := hr.below hb0
  generalize hW0 : World.alloc w _ = W0 at hF hb0 hr0 ⊢
  clear hW0 hr
  go_loopw [0, 9] (fun v i wr => ∃ k : Nat, k ≤ 3 ∧ i = .int .i64 k ∧ RF T wr v (stage xs 4 k) ∧ Below w.heap.size w wr ∧ wr.heap[w.heap.size]? = some (.cells #[.func (.func 35) #[] #[], .func (.func 36) #[] #[], .func (.func 37) #[] #[]] 49)) (fun _ i _ => 3 - (intOf i).toNat)
  case atStart => exact ⟨0, by omega, rfl, hr0, hb0, hF⟩
  case round =>
    obtain ⟨k, hk, rfl, hrd, hb, hcells⟩ := hrel
    have hlt := heap_lt hcells
    have hord := ord_stage ho 4 k
    by_cases hlt3 : k < 3
    · have hk3 : k = 0 ∨ k = 1 ∨ k = 2 := by omega
      rcases hk3 with rfl | rfl | rfl
      all_goals
        have c0 := cell_of hcells (j := 0) rfl
        have c1 := cell_of hcells (j := 1) rfl
        have c2 := cell_of hcells (j := 2) rfl
        first
          | (have hrd2 := stageR_no_of hrd (by decide)
             go_wp2_with fail
             go_roundw
             case rel => exact ⟨_, by decide, rfl, hrd2, hb, hcells⟩
             case measure => decide)
          | (go_wp2_with fail
             first
               | refine (sym_any T 0 _ _ _ hrd hord).mono ?_
               | refine (sym_any T 1 _ _ _ hrd hord).mono ?_
               | refine (sym_any T 2 _ _ _ hrd hord).mono ?_
             rintro e w2 ⟨v2, rfl, hr2, hb2⟩
             have hcells2 := (hb2.block _ hlt).trans hcells
             have hb3 := hb.trans (hb2.mono hb.size)
             have hrd2 := stageR_yes_of hr2 (by decide)
             go_wp2_with fail
             go_roundw
             case rel => exact ⟨_, by decide, rfl, hrd2, hb3, hcells2⟩
             case measure => simp [intOf])
    · have hk3 : k = 3 := by omega
      subst hk3
      go_wp2_with fail
      go_ret
      exact ⟨_, rfl, hrd, hb⟩

set_option maxRecDepth 100000 in
set_option maxHeartbeats 1600000 in
theorem turned_5 (T : Prop) (v : Value) (xs : List Int) (w : World) (hr : RF T w v xs) (ho : ordB xs = true) :
    Calls Try.prog 19 #[v, .int .i64 5] w fun e w' => ∃ v', e = .returned v' ∧ RF T w' v' (turnL xs 5) ∧ Below w.heap.size w w' := by
  go_enter Try.func19, Try.ntmps19
  go_wp2_with fail
  have hF : (w.alloc (.cells #[.func (.func 35) #[] #[], .func (.func 36) #[] #[], .func (.func 37) #[] #[]] 49)).heap[w.heap.size]? = some (.cells #[.func (.func 35) #[] #[], .func (.func 36) #[] #[], .func (.func 37) #[] #[]] 49) := heap_alloc_new _ _
  have hb0 := (Below.refl w.heap.size w).alloc (Nat.le_refl _) (.cells #[.func (.func 35) #[] #[], .func (.func 36) #[] #[], .func (.func 37) #[] #[]] 49)
  have hr0 := hr.below hb0
  generalize hW0 : World.alloc w _ = W0 at hF hb0 hr0 ⊢
  clear hW0 hr
  go_loopw [0, 9] (fun v i wr => ∃ k : Nat, k ≤ 3 ∧ i = .int .i64 k ∧ RF T wr v (stage xs 5 k) ∧ Below w.heap.size w wr ∧ wr.heap[w.heap.size]? = some (.cells #[.func (.func 35) #[] #[], .func (.func 36) #[] #[], .func (.func 37) #[] #[]] 49)) (fun _ i _ => 3 - (intOf i).toNat)
  case atStart => exact ⟨0, by omega, rfl, hr0, hb0, hF⟩
  case round =>
    obtain ⟨k, hk, rfl, hrd, hb, hcells⟩ := hrel
    have hlt := heap_lt hcells
    have hord := ord_stage ho 5 k
    by_cases hlt3 : k < 3
    · have hk3 : k = 0 ∨ k = 1 ∨ k = 2 := by omega
      rcases hk3 with rfl | rfl | rfl
      all_goals
        have c0 := cell_of hcells (j := 0) rfl
        have c1 := cell_of hcells (j := 1) rfl
        have c2 := cell_of hcells (j := 2) rfl
        first
          | (have hrd2 := stageR_no_of hrd (by decide)
             go_wp2_with fail
             go_roundw
             case rel => exact ⟨_, by decide, rfl, hrd2, hb, hcells⟩
             case measure => decide)
          | (go_wp2_with fail
             first
               | refine (sym_any T 0 _ _ _ hrd hord).mono ?_
               | refine (sym_any T 1 _ _ _ hrd hord).mono ?_
               | refine (sym_any T 2 _ _ _ hrd hord).mono ?_
             rintro e w2 ⟨v2, rfl, hr2, hb2⟩
             have hcells2 := (hb2.block _ hlt).trans hcells
             have hb3 := hb.trans (hb2.mono hb.size)
             have hrd2 := stageR_yes_of hr2 (by decide)
             go_wp2_with fail
             go_roundw
             case rel => exact ⟨_, by decide, rfl, hrd2, hb3, hcells2⟩
             case measure => simp [intOf])
    · have hk3 : k = 3 := by omega
      subst hk3
      go_wp2_with fail
      go_ret
      exact ⟨_, rfl, hrd, hb⟩

set_option maxRecDepth 100000 in
set_option maxHeartbeats 1600000 in
theorem turned_6 (T : Prop) (v : Value) (xs : List Int) (w : World) (hr : RF T w v xs) (ho : ordB xs = true) :
    Calls Try.prog 19 #[v, .int .i64 6] w fun e w' => ∃ v', e = .returned v' ∧ RF T w' v' (turnL xs 6) ∧ Below w.heap.size w w' := by
  go_enter Try.func19, Try.ntmps19
  go_wp2_with fail
  have hF : (w.alloc (.cells #[.func (.func 35) #[] #[], .func (.func 36) #[] #[], .func (.func 37) #[] #[]] 49)).heap[w.heap.size]? = some (.cells #[.func (.func 35) #[] #[], .func (.func 36) #[] #[], .func (.func 37) #[] #[]] 49) := heap_alloc_new _ _
  have hb0 := (Below.refl w.heap.size w).alloc (Nat.le_refl _) (.cells #[.func (.func 35) #[] #[], .func (.func 36) #[] #[], .func (.func 37) #[] #[]] 49)
  have hr0 := hr.below hb0
  generalize hW0 : World.alloc w _ = W0 at hF hb0 hr0 ⊢
  clear hW0 hr
  go_loopw [0, 9] (fun v i wr => ∃ k : Nat, k ≤ 3 ∧ i = .int .i64 k ∧ RF T wr v (stage xs 6 k) ∧ Below w.heap.size w wr ∧ wr.heap[w.heap.size]? = some (.cells #[.func (.func 35) #[] #[], .func (.func 36) #[] #[], .func (.func 37) #[] #[]] 49)) (fun _ i _ => 3 - (intOf i).toNat)
  case atStart => exact ⟨0, by omega, rfl, hr0, hb0, hF⟩
  case round =>
    obtain ⟨k, hk, rfl, hrd, hb, hcells⟩ := hrel
    have hlt := heap_lt hcells
    have hord := ord_stage ho 6 k
    by_cases hlt3 : k < 3
    · have hk3 : k = 0 ∨ k = 1 ∨ k = 2 := by omega
      rcases hk3 with rfl | rfl | rfl
      all_goals
        have c0 := cell_of hcells (j := 0) rfl
        have c1 := cell_of hcells (j := 1) rfl
        have c2 := cell_of hcells (j := 2) rfl
        first
          | (have hrd2 := stageR_no_of hrd (by decide)
             go_wp2_with fail
             go_roundw
             case rel => exact ⟨_, by decide, rfl, hrd2, hb, hcells⟩
             case measure => decide)
          | (go_wp2_with fail
             first
               | refine (sym_any T 0 _ _ _ hrd hord).mono ?_
               | refine (sym_any T 1 _ _ _ hrd hord).mono ?_
               | refine (sym_any T 2 _ _ _ hrd hord).mono ?_
             rintro e w2 ⟨v2, rfl, hr2, hb2⟩
             have hcells2 := (hb2.block _ hlt).trans hcells
             have hb3 := hb.trans (hb2.mono hb.size)
             have hrd2 := stageR_yes_of hr2 (by decide)
             go_wp2_with fail
             go_roundw
             case rel => exact ⟨_, by decide, rfl, hrd2, hb3, hcells2⟩
             case measure => simp [intOf])
    · have hk3 : k = 3 := by omega
      subst hk3
      go_wp2_with fail
      go_ret
      exact ⟨_, rfl, hrd, hb⟩

set_option maxRecDepth 100000 in
set_option maxHeartbeats 1600000 in
theorem turned_7 (T : Prop) (v : Value) (xs : List Int) (w : World) (hr : RF T w v xs) (ho : ordB xs = true) :
    Calls Try.prog 19 #[v, .int .i64 7] w fun e w' => ∃ v', e = .returned v' ∧ RF T w' v' (turnL xs 7) ∧ Below w.heap.size w w' := by
  go_enter Try.func19, Try.ntmps19
  go_wp2_with fail
  have hF : (w.alloc (.cells #[.func (.func 35) #[] #[], .func (.func 36) #[] #[], .func (.func 37) #[] #[]] 49)).heap[w.heap.size]? = some (.cells #[.func (.func 35) #[] #[], .func (.func 36) #[] #[], .func (.func 37) #[] #[]] 49) := heap_alloc_new _ _
  have hb0 := (Below.refl w.heap.size w).alloc (Nat.le_refl _) (.cells #[.func (.func 35) #[] #[], .func (.func 36) #[] #[], .func (.func 37) #[] #[]] 49)
  have hr0 := hr.below hb0
  generalize hW0 : World.alloc w _ = W0 at hF hb0 hr0 ⊢
  clear hW0 hr
  go_loopw [0, 9] (fun v i wr => ∃ k : Nat, k ≤ 3 ∧ i = .int .i64 k ∧ RF T wr v (stage xs 7 k) ∧ Below w.heap.size w wr ∧ wr.heap[w.heap.size]? = some (.cells #[.func (.func 35) #[] #[], .func (.func 36) #[] #[], .func (.func 37) #[] #[]] 49)) (fun _ i _ => 3 - (intOf i).toNat)
  case atStart => exact ⟨0, by omega, rfl, hr0, hb0, hF⟩
  case round =>
    obtain ⟨k, hk, rfl, hrd, hb, hcells⟩ := hrel
    have hlt := heap_lt hcells
    have hord := ord_stage ho 7 k
    by_cases hlt3 : k < 3
    · have hk3 : k = 0 ∨ k = 1 ∨ k = 2 := by omega
      rcases hk3 with rfl | rfl | rfl
      all_goals
        have c0 := cell_of hcells (j := 0) rfl
        have c1 := cell_of hcells (j := 1) rfl
        have c2 := cell_of hcells (j := 2) rfl
        first
          | (have hrd2 := stageR_no_of hrd (by decide)
             go_wp2_with fail
             go_roundw
             case rel => exact ⟨_, by decide, rfl, hrd2, hb, hcells⟩
             case measure => decide)
          | (go_wp2_with fail
             first
               | refine (sym_any T 0 _ _ _ hrd hord).mono ?_
               | refine (sym_any T 1 _ _ _ hrd hord).mono ?_
               | refine (sym_any T 2 _ _ _ hrd hord).mono ?_
             rintro e w2 ⟨v2, rfl, hr2, hb2⟩
             have hcells2 := (hb2.block _ hlt).trans hcells
             have hb3 := hb.trans (hb2.mono hb.size)
             have hrd2 := stageR_yes_of hr2 (by decide)
             go_wp2_with fail
             go_roundw
             case rel => exact ⟨_, by decide, rfl, hrd2, hb3, hcells2⟩
             case measure => simp [intOf])
    · have hk3 : k = 3 := by omega
      subst hk3
      go_wp2_with fail
      go_ret
      exact ⟨_, rfl, hrd, hb⟩

theorem turned_RF (T : Prop) (v : Value) (xs : List Int) (s : Nat) (w : World) (hr : RF T w v xs) (ho : ordB xs = true) (hs : s ≤ 7) :
    Calls Try.prog 19 #[v, .int .i64 s] w fun e w' => ∃ v', e = .returned v' ∧ RF T w' v' (turnL xs s) ∧ Below w.heap.size w w' := by
  have hs8 : s = 0 ∨ s = 1 ∨ s = 2 ∨ s = 3 ∨ s = 4 ∨ s = 5 ∨ s = 6 ∨ s = 7 := by omega
  rcases hs8 with rfl | rfl | rfl | rfl | rfl | rfl | rfl | rfl
  · exact turned_0 T v xs w hr ho
  · exact turned_1 T v xs w hr ho
  · exact turned_2 T v xs w hr ho
  · exact turned_3 T v xs w hr ho
  · exact turned_4 T v xs w hr ho
  · exact turned_5 T v xs w hr ho
  · exact turned_6 T v xs w hr ho
  · exact turned_7 T v xs w hr ho
theorem turned_any (v : Value) (xs : List Int) (s : Nat) (w : World) (hr : Reads w v xs) (ho : ordB xs = true) (hs : s ≤ 7) :
    Calls Try.prog 19 #[v, .int .i64 s] w fun e w' => ∃ v', e = .returned v' ∧ Reads w' v' (turnL xs s) ∧ Below w.heap.size w w' :=
  (turned_RF False v xs s w ⟨hr, fun h => h.elim⟩ ho hs).mono fun e w' ⟨v', h1, h2, h3⟩ => ⟨v', h1, h2.1, h3⟩
theorem turned_own (v : Value) (xs : List Int) (s : Nat) (w : World) (hr : OwnRow 0 w v xs) (ho : ordB xs = true) (hs : s ≤ 7) :
    Calls Try.prog 19 #[v, .int .i64 s] w fun e w' => ∃ v', e = .returned v' ∧ OwnRow 0 w' v' (turnL xs s) ∧ Below w.heap.size w w' :=
  (turned_RF True v xs s w (RF.own hr) ho hs).mono fun e w' ⟨v', h1, h2, h3⟩ => ⟨v', h1, h2.2 trivial, h3⟩
end Go.Proofs.Ytlgonmnbedddaaa
