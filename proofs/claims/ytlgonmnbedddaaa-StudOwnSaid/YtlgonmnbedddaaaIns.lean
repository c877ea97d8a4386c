/- slices.Insert at either end of a slice that a call has collected. -/
import Derived.Test.YtlgonmnbedddaaaBase
import Derived.Shelf.Spec.SlicesInsert
import Derived.Shelf.Spec.SlicesInsertGrow
import Derived.Lib.SlBuf
set_option linter.unusedVariables false
set_option linter.unusedSimpArgs false
namespace Go.Proofs.Ytlgonmnbedddaaa
open Go.RowKit Go.Shelf

def insRen : Ren := ⟨fun n => if n = 21 then 26 else if n = 27 then 40 else if n = 28 then 41 else if n = 35 then 49 else 54,
  fun n => if n = 0 then 0 else if n = 3 then 3 else if n = 4 then 4 else 22, fun n => n⟩
theorem insLays : Lays2.n21 Try.prog insRen where
  mixed := by kernel_rfl
  f21 := by kernel_rfl
  f27 := by kernel_rfl
  f28 := by kernel_rfl
  f35 := by kernel_rfl
  f39 := by kernel_rfl
  t0 := by kernel_rfl
  a0 := fun w => by kernel_rfl
  z0 := fun w => by kernel_rfl
  v0 := fun w => by kernel_rfl
  t3 := by kernel_rfl
  a3 := fun w => by kernel_rfl
  z3 := fun w => by kernel_rfl
  v3 := fun w => by kernel_rfl
  t4 := by kernel_rfl
  a4 := fun w => by kernel_rfl
  z4 := fun w => by kernel_rfl
  v4 := fun w => by kernel_rfl
  t22 := by kernel_rfl
  a22 := fun w => by kernel_rfl
  z22 := fun w => by kernel_rfl
  v22 := fun w => by kernel_rfl
  i3 := by kernel_rfl

theorem size_setCells (b : Nat) : ∀ (vs : List Value) (o : Nat) (w : World), (w.setCells b o vs).heap.size = w.heap.size
  | [], _, _ => rfl
  | v :: r, o, w => by rw [World.setCells, size_setCells b r]; simp
/-- a row whose cells are known reads -/
theorem reads_cells {w : World} {b off cap : Nat} {xs : List Int} (hb : b < w.heap.size) (hl : xs.length ≤ cap) (hm : cap ≤ maxLen) (hc : ∀ j, j < xs.length → w.cell? ⟨b, off + j, none⟩ = some (.int .i64 (gi xs j))) : Reads w (.slice (some ⟨b, off, none⟩) xs.length cap) xs :=
  ⟨_, cap, rfl, hl, hm, .inr ⟨b, off, rfl, hb, hc⟩⟩
theorem gi_cons_zero (y : Int) (xs : List Int) : gi (y :: xs) 0 = y := by simp [gi]
theorem gi_cons_succ (y : Int) (xs : List Int) (j : Nat) : gi (y :: xs) (j + 1) = gi xs j := by simp [gi]
theorem map_at {xs : List Int} {j : Nat} {v : Value} (h : (xs.map (Value.int .i64))[j]? = some v) : j < xs.length ∧ v = .int .i64 (gi xs j) := by
  have hj : j < xs.length := by
    have := (List.getElem?_eq_some_iff.1 h).1; simpa using this
  refine ⟨hj, ?_⟩
  rw [gi_lt hj]
  simp [hj] at h; exact h.symm

/-- ahead of all -/
theorem insert_front {w0 w : World} {v : Value} {xs : List Int} (hc : Col w0 w v xs) (hn : 1 ≤ xs.length) (hl : xs.length ≤ 1000000) (y : Int) :
    Calls Try.prog 26 #[v, .int .i64 0, .slice (some ⟨w.heap.size, 0, none⟩) 1 1] (w.alloc (.cells #[.int .i64 y] 3)) fun e w' => ∃ v', e = .returned v' ∧ Reads w' v' (y :: xs) ∧ Below w0.heap.size w0 w' := by
  have hbel := hc.below
  have hsz0 := hbel.size
  obtain ⟨h0, h1⟩ := hc.own
  rcases h1 with ⟨_, h1⟩ | ⟨g, cap, cur, rfl, hg0, hg, hncap, hm, hcs, ht⟩
  · omega
  have hglt := heap_lt hg
  have hb1 : Below w0.heap.size w0 (w.alloc (.cells #[.int .i64 y] 3)) := hbel.alloc hsz0 _
  have hg1 : (w.alloc (.cells #[.int .i64 y] 3)).heap[g]? = some (.cells cur 3 (0, 0)) := alloc_old hg
  have hv1 : (w.alloc (.cells #[.int .i64 y] 3)).heap[w.heap.size]? = some (.cells #[.int .i64 y] 3 (0, 0)) := heap_alloc_new _ _
  have hsz1 : (w.alloc (.cells #[.int .i64 y] 3)).heap.size = w.heap.size + 1 := by simp
  generalize World.alloc w _ = W at hb1 hg1 hv1 hsz1 ⊢
  have hcell : ∀ j u, (xs.map (Value.int .i64))[j]? = some u → W.cell? ⟨g, 0 + j, none⟩ = some u := by
    intro j u hj
    obtain ⟨hjl, rfl⟩ := map_at hj
    rw [Nat.zero_add, cell_of_row _ _ _ _ _ _ hg1]
    have e : cur.toList[j]? = (xs.map (Value.int .i64))[j]? := by
      rw [← ht, List.getElem?_take, if_pos (by omega)]
    rw [hj] at e
    simpa using e
  have hnew : ∀ j u, [Value.int .i64 y][j]? = some u → W.cell? ⟨w.heap.size, 0 + j, none⟩ = some u := by
    intro j u hj
    have hj0 : j = 0 := by
      have := (List.getElem?_eq_some_iff.1 hj).1; simpa using this
    subst hj0
    rw [cell_of_row _ _ _ _ _ _ hv1]; simpa using hj
  have hone : ∀ u ∈ xs.map (Value.int .i64), u.oneCell' = true := by intro u hu; simp only [List.mem_map] at hu; obtain ⟨x, _, rfl⟩ := hu; rfl
  have hone2 : ∀ u ∈ [Value.int .i64 y], u.oneCell' = true := by intro u hu; simp only [List.mem_singleton] at hu; subst hu; rfl
  have hcur : cur.size = cap := by rw [hcs, Nat.mul_one]
  have hm63 : cap ≤ 9223372036854775807 := by unfold maxLen at hm; omega
  by_cases hroom : xs.length + 1 ≤ cap
  · have key := Any2.slices_Insert_int_shift insLays g 0 xs.length cap 0 w.heap.size 0 1 1 (xs.map (Value.int .i64)) [.int .i64 y] W (by omega) (by omega) hroom hm63 (by omega) (by simp) rfl hcell
      (fun j hj => by rw [cell_of_row _ _ _ _ _ _ hg1]; simp; omega) (fun j hj => frozen_of_row _ _ _ _ _ hg1) hnew hone hone2 3 3 1 cap
      (by simp [World.shape?, hv1]) (by simp [World.shape?, hg1, hcur]) (by omega) (frozen_of_row _ _ _ _ _ hv1) (frozen_of_row _ _ _ _ _ hv1)
    refine key.mono ?_
    rintro e w' ⟨rfl, rfl⟩
    have hsome : ∀ j, j < cap → (W.drew.cell? ⟨g, j, none⟩).isSome = true := fun j hj => by
      show (W.cell? ⟨g, j, none⟩).isSome = true
      rw [cell_of_row _ _ _ _ _ _ hg1]; simp; omega
    have hlen : (y :: xs).length = xs.length + 1 := rfl
    refine ⟨_, rfl, ?_, ?_⟩
    · have := reads_cells (w := (W.drew.setCells g (0 + (0 + 1)) ((xs.map (Value.int .i64)).drop 0)).setCells g (0 + 0) [.int .i64 y]) (b := g) (off := 0) (cap := cap) (xs := y :: xs) (by rw [size_setCells, size_setCells]; show g < W.heap.size; omega) (by simp; omega) hm ?_
      · exact this
      · intro j hj
        cases j with
        | zero =>
          rw [gi_cons_zero]
          have h := World.cell?_setCells_in g [.int .i64 y] (0 + 0) (W.drew.setCells g (0 + (0 + 1)) ((xs.map (Value.int .i64)).drop 0)) (fun j hj => by
            have hj0 : j = 0 := by simpa using hj
            subst hj0
            rw [World.cell?_setCells_out g _ _ _ _ (fun _ _ => .inl (by simp))]
            exact hsome 0 (by omega)) 0 (by simp)
          simpa using h
        | succ j =>
          rw [gi_cons_succ]
          rw [World.cell?_setCells_out g _ _ _ _ (fun _ _ => .inr (by simp))]
          have hj' : j < xs.length := by simpa using hj
          have h := World.cell?_setCells_in g ((xs.map (Value.int .i64)).drop 0) (0 + (0 + 1)) W.drew (fun j hj => by
            refine hsome _ ?_
            simp at hj; omega) j (by simpa using hj')
          rw [show 0 + (j + 1) = 0 + (0 + 1) + j by omega, h, gi_lt hj']
          simp
    · exact Lib.below_setCells g hg0 _ _ (Lib.below_setCells g hg0 _ _ hb1.drew)
  · have key := Any2.slices_Insert_int_grow insLays g 0 xs.length cap 0 w.heap.size 0 1 1 (xs.map (Value.int .i64)) [.int .i64 y] W (by omega) (by omega) hncap (by omega) (by omega) (by simp) rfl hcell hnew hone hone2
    refine key.mono ?_
    rintro e w' ⟨rfl, rfl⟩
    have hgc : xs.length + 1 ≤ grownCap W (xs.length + 1) cap (insRen.t 3) := grownCap_ge _ _ _ _
    have hgm : grownCap W (xs.length + 1) cap (insRen.t 3) ≤ maxLen := grownCap_le_maxLen _ _ _ _ (by simp only [maxLen]; omega)
    generalize grownCap W (xs.length + 1) cap (insRen.t 3) = gc at hgc hgm ⊢
    generalize hA : ((xs.map (Value.int .i64)).take 0).toArray ++ Builtin.zeroCells (Value.int .i64 0).cells (xs.length + 1 - 0) ++ Builtin.zeroCells (Value.int .i64 0).cells (gc - (xs.length + 1)) = A
    have hAs : A.size = gc := by
      rw [← hA]
      simp [Builtin.zeroCells, Value.cells]
      omega
    clear hA
    have hAl : (W.alloc (.cells A (insRen.t 3))).heap[W.heap.size]? = some (.cells A (insRen.t 3) (0, 0)) := heap_alloc_new _ _
    have hbA : Below w0.heap.size w0 (W.alloc (.cells A (insRen.t 3))) := hb1.alloc hb1.size _
    have hsA : (W.alloc (.cells A (insRen.t 3))).heap.size = W.heap.size + 1 := by simp
    have hW0 : w0.heap.size ≤ W.heap.size := hb1.size
    generalize World.alloc W _ = V at hAl hbA hsA ⊢
    have hsome : ∀ (V' : World), V'.heap = V.heap → ∀ j, j < gc → (V'.cell? ⟨W.heap.size, j, none⟩).isSome = true := fun V' hV j hj => by
      rw [cell_of_row _ _ _ _ _ _ (show V'.heap[W.heap.size]? = some (.cells A (insRen.t 3) (0, 0)) by rw [hV]; exact hAl)]; simp; omega
    refine ⟨_, rfl, ?_, ?_⟩
    · refine reads_cells (b := W.heap.size) (off := 0) (cap := gc) (xs := y :: xs) (by rw [size_setCells]; show W.heap.size < (World.setCells V.drew W.heap.size 0 [.int .i64 y]).heap.size; rw [size_setCells]; show W.heap.size < V.heap.size; omega) (by simpa using hgc) hgm ?_
      intro j hj
      cases j with
      | zero =>
        rw [gi_cons_zero]
        rw [World.cell?_setCells_out _ _ _ _ _ (fun _ _ => .inl (by simp))]
        show (World.setCells V.drew W.heap.size 0 [.int .i64 y]).cell? _ = _
        have h := World.cell?_setCells_in W.heap.size [.int .i64 y] 0 V.drew (fun j hj => by
          have hj0 : j = 0 := by simpa using hj
          subst hj0
          exact hsome V.drew rfl 0 (by omega)) 0 (by simp)
        simpa using h
      | succ j =>
        rw [gi_cons_succ]
        have hj' : j < xs.length := by simpa using hj
        have h := World.cell?_setCells_in W.heap.size ((xs.map (Value.int .i64)).drop 0) (0 + 1) ((V.drew.setCells W.heap.size 0 [.int .i64 y]).drew) (fun j hj => by
          show ((V.drew.setCells W.heap.size 0 [.int .i64 y]).cell? _).isSome = true
          rw [World.cell?_setCells_out _ _ _ _ _ (fun _ _ => .inr (by simp))]
          refine hsome V.drew rfl _ ?_
          simp at hj; omega) j (by simpa using hj')
        rw [show 0 + (j + 1) = 0 + 1 + j by omega, h, gi_lt hj']
        simp
    · exact Lib.below_setCells _ hW0 _ _ (Lib.below_setCells _ hW0 _ _ hbA.drew).drew

/-- behind all -/
theorem insert_back {w0 w : World} {v : Value} {xs : List Int} (hc : Col w0 w v xs) (hn : 1 ≤ xs.length) (hl : xs.length ≤ 1000000) (y : Int) :
    Calls Try.prog 26 #[v, .int .i64 xs.length, .slice (some ⟨w.heap.size, 0, none⟩) 1 1] (w.alloc (.cells #[.int .i64 y] 3)) fun e w' => ∃ v', e = .returned v' ∧ Reads w' v' (xs ++ [y]) ∧ Below w0.heap.size w0 w' := by
  have hbel := hc.below
  have hsz0 := hbel.size
  obtain ⟨h0, h1⟩ := hc.own
  rcases h1 with ⟨_, h1⟩ | ⟨g, cap, cur, rfl, hg0, hg, hncap, hm, hcs, ht⟩
  · omega
  have hglt := heap_lt hg
  have hb1 : Below w0.heap.size w0 (w.alloc (.cells #[.int .i64 y] 3)) := hbel.alloc hsz0 _
  have hg1 : (w.alloc (.cells #[.int .i64 y] 3)).heap[g]? = some (.cells cur 3 (0, 0)) := alloc_old hg
  have hv1 : (w.alloc (.cells #[.int .i64 y] 3)).heap[w.heap.size]? = some (.cells #[.int .i64 y] 3 (0, 0)) := heap_alloc_new _ _
  have hsz1 : (w.alloc (.cells #[.int .i64 y] 3)).heap.size = w.heap.size + 1 := by simp
  generalize World.alloc w _ = W at hb1 hg1 hv1 hsz1 ⊢
  have hcell : ∀ j u, (xs.map (Value.int .i64))[j]? = some u → W.cell? ⟨g, 0 + j, none⟩ = some u := by
    intro j u hj
    obtain ⟨hjl, rfl⟩ := map_at hj
    rw [Nat.zero_add, cell_of_row _ _ _ _ _ _ hg1]
    have e : cur.toList[j]? = (xs.map (Value.int .i64))[j]? := by
      rw [← ht, List.getElem?_take, if_pos (by omega)]
    rw [hj] at e
    simpa using e
  have hnew : ∀ j u, [Value.int .i64 y][j]? = some u → W.cell? ⟨w.heap.size, 0 + j, none⟩ = some u := by
    intro j u hj
    have hj0 : j = 0 := by
      have := (List.getElem?_eq_some_iff.1 hj).1; simpa using this
    subst hj0
    rw [cell_of_row _ _ _ _ _ _ hv1]; simpa using hj
  have hone : ∀ u ∈ xs.map (Value.int .i64), u.oneCell' = true := by intro u hu; simp only [List.mem_map] at hu; obtain ⟨x, _, rfl⟩ := hu; rfl
  have hone2 : ∀ u ∈ [Value.int .i64 y], u.oneCell' = true := by intro u hu; simp only [List.mem_singleton] at hu; subst hu; rfl
  have hcur : cur.size = cap := by rw [hcs, Nat.mul_one]
  have hm63 : cap ≤ 9223372036854775807 := by unfold maxLen at hm; omega
  have hgi : ∀ j, j < xs.length → gi (xs ++ [y]) j = gi xs j := fun j hj => by simp [gi, List.getElem?_append_left hj]
  have hgl : gi (xs ++ [y]) xs.length = y := by simp [gi]
  have hlen : (xs ++ [y]).length = xs.length + 1 := by simp
  by_cases hroom : xs.length + 1 ≤ cap
  · have key := Any2.slices_Insert_int_end_room insLays g 0 xs.length cap w.heap.size 0 1 1 [.int .i64 y] W (by omega) hroom hm63 rfl
      (fun j hj => by rw [cell_of_row _ _ _ _ _ _ hg1]; simp; omega) (fun j hj => frozen_of_row _ _ _ _ _ hg1) hnew hone2
    refine key.mono ?_
    rintro e w' ⟨rfl, rfl⟩
    refine ⟨_, rfl, ?_, Lib.below_setCells g hg0 _ _ hb1⟩
    have := reads_cells (w := W.setCells g (0 + xs.length) [.int .i64 y]) (b := g) (off := 0) (cap := cap) (xs := xs ++ [y]) (by rw [size_setCells]; omega) (by rw [hlen]; omega) hm ?_
    · rw [hlen] at this; exact this
    · intro j hj
      rw [hlen] at hj
      by_cases e : j = xs.length
      · subst e
        rw [hgl]
        have h := World.cell?_setCells_in g [.int .i64 y] (0 + xs.length) W (fun j hj => by
          have hj0 : j = 0 := by simpa using hj
          subst hj0
          rw [cell_of_row _ _ _ _ _ _ hg1]; simp; omega) 0 (by simp)
        simpa using h
      · rw [hgi j (by omega), World.cell?_setCells_out g _ _ _ _ (fun _ _ => .inl (by simp; omega))]
        exact hcell j _ (by rw [gi_lt (by omega : j < xs.length)]; simp [show j < xs.length by omega])
  · have key := Any2.slices_Insert_int_end_grow insLays (some ⟨g, 0, none⟩) xs.length cap w.heap.size 0 1 1 (xs.map (Value.int .i64)) [.int .i64 y] W (by omega) hncap (by omega) (by omega) (by simp) rfl (fun h => by cases h)
      (fun a ha j u hj => by
        cases ha
        have hadd : (⟨g, 0, none⟩ : Addr).add j = ⟨g, 0 + j, none⟩ := by unfold Addr.add; split <;> simp_all
        rw [hadd]; exact hcell j u hj) hnew hone2
    refine key.mono ?_
    rintro e w' ⟨rfl, rfl⟩
    have hgc : xs.length + 1 ≤ grownCap W (xs.length + 1) cap (insRen.t 3) := grownCap_ge _ _ _ _
    have hgm : grownCap W (xs.length + 1) cap (insRen.t 3) ≤ maxLen := grownCap_le_maxLen _ _ _ _ (by simp only [maxLen]; omega)
    generalize grownCap W (xs.length + 1) cap (insRen.t 3) = gc at hgc hgm ⊢
    refine ⟨_, rfl, ?_, hb1.drew.alloc hb1.drew.size _⟩
    have hrow : (W.drew.alloc (.cells ((xs.map (Value.int .i64) ++ [Value.int .i64 y]).toArray ++ Builtin.zeroCells (Value.int .i64 0).cells (gc - (xs.length + 1))) (insRen.t 3))).heap[W.heap.size]? = some (.cells ((xs.map (Value.int .i64) ++ [Value.int .i64 y]).toArray ++ Builtin.zeroCells (Value.int .i64 0).cells (gc - (xs.length + 1))) (insRen.t 3)) := heap_alloc_new W.drew _
    have := reads_cells (w := W.drew.alloc (.cells ((xs.map (Value.int .i64) ++ [Value.int .i64 y]).toArray ++ Builtin.zeroCells (Value.int .i64 0).cells (gc - (xs.length + 1))) (insRen.t 3))) (b := W.heap.size) (off := 0) (cap := gc) (xs := xs ++ [y]) (heap_lt hrow) (by rw [hlen]; exact hgc) hgm ?_
    · rw [hlen] at this; exact this
    · intro j hj
      rw [Nat.zero_add, cell_of_row _ _ _ _ _ _ hrow, gi_lt hj]
      have hmap : xs.map (Value.int .i64) ++ [Value.int .i64 y] = (xs ++ [y]).map (Value.int .i64) := by simp
      rw [hmap, Array.getElem?_append_left (by simpa using hj), List.getElem?_toArray, List.getElem?_map, List.getElem?_eq_getElem hj]
      rfl
end Go.Proofs.Ytlgonmnbedddaaa
