/- Appends by the type of the elements; the machine's memory. -/
import Derived.Test.YtfjbggodniemeaaTpM
import Derived.Lib.OthersKept
set_option linter.unusedVariables false
set_option linter.unusedSimpArgs false
namespace Go.Proofs.Ytfjbggodniemeaa
open Go.RowKit

/-- all blocks but cells of a type are as they were -/
def OnlyT (e : TypeId) (w w' : World) : Prop := ∀ (g : Nat) (o : Obj), w.heap[g]? = some o → (∀ cs fr, o ≠ .cells cs e fr) → w'.heap[g]? = some o
theorem cells_ne {t e : TypeId} (h : t ≠ e) (cs : Array Value) (fr : Nat × Nat) : ∀ cs' fr', (Obj.cells cs t fr) ≠ .cells cs' e fr' := fun cs' fr' he => by
  injection he with _ h2 _
  exact h h2
theorem OnlyT.sameT {t e : TypeId} {w w' : World} (h : OnlyT t w w') (hne : e ≠ t) : SameT e w w' := fun g cs fr hg => h g _ hg (cells_ne hne cs fr)
theorem OnlyT.map {t : TypeId} {w w' : World} (h : OnlyT t w w') {α : Type} {ek : α → Value} {b : Nat} {kvs : List (α × Value)} (hm : MapIs ek w b kvs) : MapIs ek w' b kvs := by
  obtain ⟨es, cl, h1, h2⟩ := hm
  exact ⟨es, cl, h b _ h1 (fun cs fr e => by cases e), h2⟩
/-- all iterators are as they were -/
def KeepI (w w' : World) : Prop := ∀ (g : Nat) (s : ByteArray) (p : Nat), w.heap[g]? = some (.stringIter s p) → w'.heap[g]? = some (.stringIter s p)
theorem KeepI.trans {a b c : World} (h : KeepI a b) (k : KeepI b c) : KeepI a c := fun g s p hg => k g s p (h g s p hg)
theorem OnlyT.keepI {t : TypeId} {w w' : World} (h : OnlyT t w w') : KeepI w w' := fun g s p hg => h g _ hg (fun cs fr e => by cases e)
theorem KeepI.below {w w' : World} (h : Below w.heap.size w w') : KeepI w w' := fun g s p hg => (h.block g (heap_lt hg)).trans hg
theorem KeepI.set {t : TypeId} {w : World} {b j : Nat} {v : Value} {cs : Array Value} {fr : Nat × Nat} (hb : w.heap[b]? = some (.cells cs t fr)) : KeepI w (w.setCell ⟨b, j, none⟩ v) := fun g s p hg => by
  refine (heap_setCell_other _ _ _ _ (fun he => ?_)).trans hg
  subst he; rw [hb] at hg; cases hg
theorem KeepI.grownMap {α : Type} {ek : α → Value} {w w' : World} {b : Nat} {kvs : List (α × Value)} (hm : MapIs ek w b kvs) (h : w.grownBy w' (some b)) : KeepI w w' := fun g s p hg => by
  refine (h.block g (heap_lt hg) (fun e => ?_)).trans hg
  have := Option.some.inj e
  subst this
  obtain ⟨es, cl, h1, h2⟩ := hm
  rw [h1] at hg; cases hg
theorem SameT.grownMap {e : TypeId} {α : Type} {ek : α → Value} {w w' : World} {b : Nat} {kvs : List (α × Value)} (hm : MapIs ek w b kvs) (h : w.grownBy w' (some b)) : SameT e w w' :=
  SameT.grown h fun r hr cs fr hc => by
    have := Option.some.inj hr
    subst this
    obtain ⟨es, cl, h1, h2⟩ := hm
    rw [h1] at hc; cases hc

theorem SameT.inner {e : TypeId} {a b c : World} (h : SameT e a b) (hb : Below a.heap.size b c) : SameT e a c := fun g cs fr hg => (hb.block g (heap_lt hg)).trans (h g cs fr hg)
/-- a type of slices with what a cell of it is -/
structure ElemOK (s e : TypeId) (z : Value) (by8 : Nat) : Prop where
  under : Try.prog.underlying s = some (.slice e)
  info : (Try.prog.info? e).map (fun i => (i.zero, i.size, i.bytes)) = some (some z, 1, by8)
  zs : z.cells.size = 1
  small : by8 ≤ 100
theorem elem_int : ElemOK 51 3 (.int .i64 0) 8 := ⟨Try.underlying51, infoInt, rfl, by decide⟩
theorem elem_ints : ElemOK 44 51 (.slice none 0 0) 24 := ⟨Try.underlying44, infoInts, rfl, by decide⟩
theorem infoStr : (Try.prog.info? 9).map (fun i => (i.zero, i.size, i.bytes)) = some (some (.string ByteArray.empty), 1, 16) := by kernel_rfl
theorem elem_str : ElemOK 26 9 (.string ByteArray.empty) 16 := ⟨Try.underlying26, infoStr, rfl, by decide⟩

theorem append_T {sl e : TypeId} {z : Value} {by8 : Nat} (E : ElemOK sl e z by8) {ops : Array Oper} {rest : List Oper} {o : Oper} {a : Act} {w : World} {Q : Exit → Act → World → Prop} (hgd : o.guard = none) (s x : Operand)
    (ho : o.op = .call { callee := .builtin .append, args := #[s, x], argTypes := #[sl, sl] }) {base : Nat} {v : Value} {xs : List Value} (hown : w.ownsRow base e 1 v xs.length xs) (hB : base ≤ w.heap.size) (hs : a.eval s = v)
    (y : Value) (hy : y.oneCell' = true) (hx : a.eval x = .slice (some ⟨w.heap.size, 0, none⟩) 1 1) (hlen : xs.length ≤ 1000000000)
    (h : ∀ v' w', w'.ownsRow base e 1 v' (xs.length + 1) (xs ++ [y]) → Below base w w' → OnlyT e w w' → v' ≠ .slice none 0 0 → wpList Try.prog ops Q rest (a.put o.dst v') w') : wpList Try.prog ops Q (o :: rest) a (w.alloc (.cells #[y] e)) := by
  obtain ⟨i0, hi, hz0, hz1, hz2⟩ := info_parts E.info
  refine wpList_append_own _ hgd s x sl ho base e i0 z 1 by8 E.under hi hz0 hz1 hz2 E.zs (by decide) v xs.length xs hs (hown.alloc _) ⟨w.heap.size, 0, none⟩ 1 1 [y] hx rfl (cell_one_new _ _ _) (by intro u hu; simp only [List.mem_singleton] at hu; subst hu; exact hy) (by simp only [maxLen]; omega) (Nat.le_trans (Nat.mul_le_mul_left _ E.small) (by omega)) (by simp; omega) ?_
  intro v' w' hown' hgrow hnil
  refine h v' w' hown' ?_ ?_ (fun e => by simpa using (hnil.1 e).2)
  · refine ((Below.refl base w).alloc hB _).grown hgrow (by simp; omega) ?_
    intro k hk
    exact (World.ownsRow.lt (hown.alloc (.cells #[y] e)) k hk.symm.symm).1
  · intro g o' hg hno
    refine (hgrow.block g (by have := heap_lt hg; simp; omega) (fun he => ?_)).trans (alloc_old hg)
    obtain ⟨cs, h2⟩ := own_type hown g he.symm
    rw [hg] at h2
    exact hno cs (0, 0) (Option.some.inj h2)

theorem row_block {W : World} {base g n : Nat} {e : TypeId} {xs : List Value} (h : W.ownsRow base e 1 (.slice (some ⟨g, 0, none⟩) n n) n xs) : W.heap[g]? = some (.cells xs.toArray e (0, 0)) := by
  obtain ⟨_, h1 | ⟨g', cap, cur, h1, h2, h3, h4, h5, h6, h7⟩⟩ := h
  · cases h1.1
  · injection h1 with e1 e2 e3
    injection e1 with e1
    injection e1 with e1
    subst e1; subst e3
    rw [h3]
    have : cur.toList = xs := by rw [← h7, List.take_of_length_le (by simp [h6])]
    rw [← this]
theorem made_block {w w1 : World} {base n : Nat} {e : TypeId} {z : Value} (hz : z.cells = #[z]) (h : w1.ownsRow base e 1 (.slice (some ⟨w.heap.size, 0, none⟩) n n) n (madeCells z.cells (n * 1)).toList) (hg : w.grownBy w1 none) :
    w1.heap[w.heap.size]? = some (.cells (List.replicate n z).toArray e (0, 0)) ∧ Below w.heap.size w w1 := by
  rw [hz, Nat.mul_one, toList_madeCells_one] at h
  exact ⟨row_block h, (Below.refl _ _).grown hg (Nat.le_refl _) (fun k e => by cases e)⟩

/-! ### the machine -/
def pairsM (st : List (List UInt8)) : List (List UInt8 × Value) := st.zipIdx.map fun p => (p.1, .int .i64 p.2)
theorem pairs_keys (st : List (List UInt8)) : (pairsM st).map (·.1) = st := by
  unfold pairsM; rw [List.map_map]; exact List.zipIdx_map_fst 0 st
theorem pairs_snoc (st : List (List UInt8)) (s : List UInt8) : pairsM (st ++ [s]) = pairsM st ++ [(s, .int .i64 st.length)] := by
  unfold pairsM; rw [List.zipIdx_append]; simp
theorem pairs_mem {st : List (List UInt8)} {s : List UInt8} (h : s ∈ st) : (s, Value.int .i64 (st.idxOf s : Nat)) ∈ pairsM st := by
  unfold pairsM
  refine List.mem_map.2 ⟨(s, st.idxOf s), ?_, rfl⟩
  rw [List.mem_zipIdx_iff_getElem?]
  simp only [Nat.zero_add, Nat.sub_zero, Nat.zero_le, true_and]
  rw [List.getElem?_eq_getElem (List.idxOf_lt_length_of_mem h), List.getElem_idxOf]
structure MS (w0 : World) (W : World) (sval nval : Value) (st : List (List UInt8)) : Prop where
  m : W.heap[w0.heap.size + 1]? = some (.cells #[.int .i64 2, sval, nval] 58)
  s : W.ownsRow w0.heap.size 9 1 sval (st.map sv).length (st.map sv)
  p : MapIs sv W (w0.heap.size + 2) (pairsM st)
  b : Below w0.heap.size w0 W
def NR (base : Nat) (W : World) (nval : Value) (rw : List (List Int)) : Prop := ∃ vs : List Value, W.ownsRow base 51 1 nval vs.length vs ∧ RowsAre base W vs rw
theorem NR.same {base : Nat} {W W' : World} {nval : Value} {rw : List (List Int)} (h : NR base W nval rw) (h1 : SameT 3 W W') (h2 : SameT 51 W W') : NR base W' nval rw := by
  obtain ⟨vs, h3, h4⟩ := h
  exact ⟨vs, own_sameT h3 h2, h4.sameT h1⟩
section
variable {w0 W W' : World} {sval nval : Value} {st : List (List UInt8)}
theorem MS.below (h : MS w0 W sval nval st) (hb : Below W.heap.size W W') : MS w0 W' sval nval st :=
  ⟨(hb.block _ (heap_lt h.m)).trans h.m, own_sameT h.s (SameT.below hb), h.p.of_block (hb.block _ h.p.lt), bto h.b hb⟩
theorem SameT.iterAt {e : TypeId} {w : World} {k : Nat} {s : ByteArray} {pos : Nat} (hk : w.heap[k]? = some (.stringIter s pos)) (pos' : Nat) : SameT e w (w.iterAt k s pos') := fun g cs fr hg => by
  refine (Lib.iterAt_other w k g s pos' (fun he => ?_)).trans hg
  subst he; rw [hk] at hg; cases hg
theorem MS.iterAt (h : MS w0 W sval nval st) {k : Nat} {s : ByteArray} {pos : Nat} (hk : W.heap[k]? = some (.stringIter s pos)) (hB : w0.heap.size ≤ k) (pos' : Nat) : MS w0 (W.iterAt k s pos') sval nval st := by
  refine ⟨SameT.iterAt hk pos' _ _ _ h.m, own_sameT h.s (SameT.iterAt hk pos'), h.p.of_block (Lib.iterAt_other W k _ s pos' (fun he => ?_)), Lib.below_iterAt h.b hB s pos'⟩
  obtain ⟨es, cl, h3, _⟩ := h.p
  rw [he, hk] at h3; cases h3
theorem MS.onlyInt (h : MS w0 W sval nval st) (ho : OnlyT 3 W W') {B : Nat} (hB : w0.heap.size ≤ B) (hb : Below B W W') : MS w0 W' sval nval st :=
  ⟨ho _ _ h.m (cells_ne (by decide) _ _), own_sameT h.s (ho.sameT (by decide)), ho.map h.p, h.b.trans (hb.mono hB)⟩
theorem set_heap_same {w : World} {b j : Nat} {v : Value} {cs : Array Value} {t : TypeId} (hb : w.heap[b]? = some (.cells cs t (0, 0))) : (w.setCell ⟨b, j, none⟩ v).heap[b]? = some (.cells (cs.setIfInBounds j v) t (0, 0)) := heap_setCell_same _ _ _ _ _ _ hb
theorem MapIs.set {α : Type} {ek : α → Value} {b g j : Nat} {v : Value} {kvs : List (α × Value)} {cs : Array Value} {t : TypeId} {fr : Nat × Nat} (hm : MapIs ek W b kvs) (hg : W.heap[g]? = some (.cells cs t fr)) : MapIs ek (W.setCell ⟨g, j, none⟩ v) b kvs := by
  refine hm.of_block (heap_setCell_other _ _ _ _ (fun he => ?_))
  obtain ⟨es, cl, h1, _⟩ := hm
  rw [he, hg] at h1; cases h1
/-- a new state: into the map, to the list, into the machine -/
theorem MS.newState {W1 W2 : World} {sv' : Value} (h : MS w0 W sval nval st) {x : List UInt8} (hm : MapIs sv W1 (w0.heap.size + 2) (pairsM st ++ [(x, .int .i64 (st.length : Nat))])) (hg : W.grownBy W1 (some (w0.heap.size + 2)))
    (hown : W2.ownsRow w0.heap.size 9 1 sv' (st.length + 1) (st.map sv ++ [sv x])) (hb : Below w0.heap.size W1 W2) (ho : OnlyT 9 W1 W2) :
    MS w0 (W2.setCell ⟨w0.heap.size + 1, 1, none⟩ sv') sv' nval (st ++ [x]) ∧ SameT 3 W (W2.setCell ⟨w0.heap.size + 1, 1, none⟩ sv') ∧ SameT 51 W (W2.setCell ⟨w0.heap.size + 1, 1, none⟩ sv') ∧ KeepI W (W2.setCell ⟨w0.heap.size + 1, 1, none⟩ sv') ∧ W.heap.size ≤ (W2.setCell ⟨w0.heap.size + 1, 1, none⟩ sv').heap.size := by
  have m1 : W1.heap[w0.heap.size + 1]? = some (.cells #[.int .i64 2, sval, nval] 58) := SameT.grownMap h.p hg _ _ _ h.m
  have m2 : W2.heap[w0.heap.size + 1]? = some (.cells #[.int .i64 2, sval, nval] 58) := ho _ _ m1 (cells_ne (by decide) _ _)
  refine ⟨⟨set_heap_same m2, ?_, ?_, ?_⟩, ?_, ?_, ?_, ?_⟩
  · have := own_sameT hown (SameT.set (j := 1) (v := sv') m2 (by decide))
    simpa using this
  · rw [pairs_snoc]; exact (ho.map hm).set m2
  · exact ((h.b.grown hg h.b.size (fun k e => by have := Option.some.inj e; omega)).trans hb).setCell (by simp) _
  · exact ((SameT.grownMap h.p hg).trans (ho.sameT (by decide))).trans (SameT.set m2 (by decide))
  · exact ((SameT.grownMap h.p hg).trans (ho.sameT (by decide))).trans (SameT.set m2 (by decide))
  · exact ((KeepI.grownMap h.p hg).trans ho.keepI).trans (KeepI.set m2)
  · rw [World.size_setCell]; exact Nat.le_trans hg.size hb.size
/-- a new row: to the list of rows, into the machine -/
theorem MS.newRow {nv' row : Value} {rw : List (List Int)} {r : List Int} (h : MS w0 W sval nval st) {vs : List Value} (hrs : RowsAre w0.heap.size W vs rw) (hrow : OwnRow w0.heap.size W row r)
    (hown : W'.ownsRow w0.heap.size 51 1 nv' (vs.length + 1) (vs ++ [row])) (hb : Below w0.heap.size W W') (ho : OnlyT 51 W W') :
    MS w0 (W'.setCell ⟨w0.heap.size + 1, 2, none⟩ nv') sval nv' st ∧ NR w0.heap.size (W'.setCell ⟨w0.heap.size + 1, 2, none⟩ nv') nv' (rw ++ [r]) := by
  have m2 : W'.heap[w0.heap.size + 1]? = some (.cells #[.int .i64 2, sval, nval] 58) := ho _ _ h.m (cells_ne (by decide) _ _)
  refine ⟨⟨set_heap_same m2, ?_, ?_, ?_⟩, ⟨vs ++ [row], ?_, ?_⟩⟩
  · exact own_sameT (own_sameT h.s (ho.sameT (by decide))) (SameT.set m2 (by decide))
  · exact (ho.map h.p).set m2
  · exact (h.b.trans hb).setCell (by simp) _
  · have := own_sameT hown (SameT.set (j := 2) (v := nv') m2 (by decide)); simpa using this
  · exact (RowsAre.snoc hrow hrs).sameT ((ho.sameT (by decide)).trans (SameT.set m2 (by decide)))
end
end Go.Proofs.Ytfjbggodniemeaa
