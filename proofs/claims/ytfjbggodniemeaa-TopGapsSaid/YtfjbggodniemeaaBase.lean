/- Words for slices of ints that are read, and for worlds that keep what was there. -/
import Derived.Test.YtfjbggodniemeaaProg
import Derived.WalkKit
import Derived.Tactics
import Derived.OwnWalk
import Derived.RowKit
import Derived.Deep.LoopGhost
import Derived.Deep.QuietTactic
import Derived.BigQuiet
import Derived.BigGuardPart
import Derived.Outline
import Derived.Lib.Hide
import Derived.Laws.MakeOwn
import Derived.Laws.OwnMore
import Derived.Deep.OwnRows
import Derived.StillTailTactics
import Derived.Laws.Tables
import Derived.Laws.CopyOwn
import Derived.Maps.AppendAt
import Derived.IntWalk
import Derived.Deep.RegionHeld3
import Derived.Deep.AppendLies
import Derived.RangeFuncNested
set_option linter.unusedVariables false
set_option linter.unusedSimpArgs false
namespace Go.Proofs.Ytfjbggodniemeaa
open Go.RowKit

/-- the element at a place (a word of its own, that simp does not look into) -/
def gi (xs : List Int) (k : Nat) : Int := xs.getD k 0
theorem gi_lt {xs : List Int} {k : Nat} (h : k < xs.length) : gi xs k = xs[k] := by simp [gi, h]
theorem gi_mem {xs : List Int} {k : Nat} (h : k < xs.length) : gi xs k ∈ xs := by rw [gi_lt h]; exact List.getElem_mem h

/-- 'v' is a slice value whose elements read 'xs' in 'w'. -/
def Reads (w : World) (v : Value) (xs : List Int) : Prop :=
  ∃ a cap, v = .slice a xs.length cap ∧ xs.length ≤ cap ∧ cap ≤ maxLen ∧
    (xs = [] ∨ ∃ b off, a = some ⟨b, off, none⟩ ∧ b < w.heap.size ∧ ∀ j, j < xs.length → w.cell? ⟨b, off + j, none⟩ = some (.int .i64 (gi xs j)))

theorem Reads.below {w w' : World} {v : Value} {xs : List Int} (h : Reads w v xs) (hb : Below w.heap.size w w') : Reads w' v xs := by
  obtain ⟨a, cap, rfl, h1, h2, h3⟩ := h
  refine ⟨a, cap, rfl, h1, h2, ?_⟩
  rcases h3 with h3 | ⟨b, off, rfl, hlt, hc⟩
  · exact .inl h3
  · refine .inr ⟨b, off, rfl, Nat.lt_of_lt_of_le hlt hb.size, fun j hj => ?_⟩
    rw [hb.cell (p := ⟨b, off + j, none⟩) hlt]; exact hc j hj

theorem Reads.nil (w : World) : Reads w (.slice none 0 0) [] := ⟨none, 0, rfl, Nat.le_refl _, by simp [maxLen], .inl rfl⟩

/-- the blocks of S are as they were -/
def SameS (S : Nat → Prop) (w w' : World) : Prop := ∀ b, S b → w'.heap[b]? = w.heap[b]?
theorem SameS.refl (S : Nat → Prop) (w : World) : SameS S w w := fun _ _ => rfl
theorem SameS.trans {S : Nat → Prop} {a b c : World} (h : SameS S a b) (k : SameS S b c) : SameS S a c := fun i hi => (k i hi).trans (h i hi)
theorem SameS.drew {S : Nat → Prop} {a b : World} (h : SameS S a b) : SameS S a b.drew := h
theorem SameS.of_below {S : Nat → Prop} {n : Nat} {a b : World} (h : Below n a b) (hS : ∀ i, S i → i < n) : SameS S a b := fun i hi => h.block i (hS i hi)
theorem SameS.cell {S : Nat → Prop} {w w' : World} (h : SameS S w w') {p : Addr} (hp : S p.block) : w'.cell? p = w.cell? p := World.cell?_of_block (h p.block hp)
theorem SameS.putObj {S : Nat → Prop} {w : World} {l : Nat} {o' : Obj} (h : ∀ i, S i → i ≠ l) : SameS S w (w.putObj l o') := fun i hi => by
  have : ¬ l = i := fun e => h i hi e.symm
  simp [World.putObj, Array.getElem?_setIfInBounds, this]
def ReadsS (S : Nat → Prop) (w : World) (v : Value) (xs : List Int) : Prop :=
  ∃ a cap, v = .slice a xs.length cap ∧ xs.length ≤ cap ∧ cap ≤ maxLen ∧
    (xs = [] ∨ ∃ b off, a = some ⟨b, off, none⟩ ∧ S b ∧ ∀ j, j < xs.length → w.cell? ⟨b, off + j, none⟩ = some (.int .i64 (gi xs j)))
theorem ReadsS.same {S : Nat → Prop} {w w' : World} {v : Value} {xs : List Int} (h : ReadsS S w v xs) (hb : SameS S w w') : ReadsS S w' v xs := by
  obtain ⟨a, cap, rfl, h1, h2, h3⟩ := h
  refine ⟨a, cap, rfl, h1, h2, ?_⟩
  rcases h3 with h3 | ⟨b, off, rfl, hlt, hc⟩
  · exact .inl h3
  · exact .inr ⟨b, off, rfl, hlt, fun j hj => (hb.cell (p := ⟨b, off + j, none⟩) hlt).trans (hc j hj)⟩
theorem ReadsS.mono {S S' : Nat → Prop} {w : World} {v : Value} {xs : List Int} (h : ReadsS S w v xs) (hS : ∀ b, S b → S' b) : ReadsS S' w v xs := by
  obtain ⟨a, cap, rfl, h1, h2, h3⟩ := h
  exact ⟨a, cap, rfl, h1, h2, h3.imp id fun ⟨b, off, ha, hlt, hc⟩ => ⟨b, off, ha, hS b hlt, hc⟩⟩
theorem Reads.s {S : Nat → Prop} {w : World} {v : Value} {xs : List Int} (h : Reads w v xs) (hS : ∀ b, b < w.heap.size → S b) : ReadsS S w v xs := by
  obtain ⟨a, cap, rfl, h1, h2, h3⟩ := h
  exact ⟨a, cap, rfl, h1, h2, h3.imp id fun ⟨b, off, ha, hlt, hc⟩ => ⟨b, off, ha, hS b hlt, hc⟩⟩
theorem ReadsS.reads {S : Nat → Prop} {w : World} {v : Value} {xs : List Int} (h : ReadsS S w v xs) (hS : ∀ b, S b → b < w.heap.size) : Reads w v xs := by
  obtain ⟨a, cap, rfl, h1, h2, h3⟩ := h
  exact ⟨a, cap, rfl, h1, h2, h3.imp id fun ⟨b, off, ha, hlt, hc⟩ => ⟨b, off, ha, hS b hlt, hc⟩⟩
theorem ReadsS.open {S : Nat → Prop} {w : World} {v : Value} {xs : List Int} (h : ReadsS S w v xs) :
    ∃ a cap, v = .slice a xs.length cap ∧ xs.length ≤ cap ∧ cap ≤ maxLen ∧
      (∀ w', SameS S w w' → ∀ k, k < xs.length → ∃ b off, a = some ⟨b, off, none⟩ ∧ ∀ j, j < xs.length → w'.cell? ⟨b, off + j, none⟩ = some (.int .i64 (gi xs j))) := by
  obtain ⟨a, cap, rfl, h1, h2, h3⟩ := h
  refine ⟨a, cap, rfl, h1, h2, fun w' hb k hk => ?_⟩
  rcases h3 with rfl | ⟨b, off, rfl, hlt, hc⟩
  · simp at hk
  · exact ⟨b, off, rfl, fun j hj => (hb.cell (p := ⟨b, off + j, none⟩) hlt).trans (hc j hj)⟩

/-- a slice that is read, still read in a later world, as lying below the old heap's end -/
theorem Reads.later {w w' : World} {v : Value} {xs : List Int} (h : Reads w v xs) (hb : Below w.heap.size w w') : ReadsS (fun b => b < w.heap.size) w' v xs :=
  (Reads.s (S := fun b => b < w.heap.size) h (fun _ h => h)).same (SameS.of_below hb (fun _ h => h))

/-- What a walk over a slice that is read takes: the address is there once there is an element. -/
theorem Reads.open {w : World} {v : Value} {xs : List Int} (h : Reads w v xs) :
    ∃ a cap, v = .slice a xs.length cap ∧ xs.length ≤ cap ∧ cap ≤ maxLen ∧
      (∀ k, k < xs.length → ∃ b off, a = some ⟨b, off, none⟩ ∧ b < w.heap.size ∧ w.cell? ⟨b, off + k, none⟩ = some (.int .i64 (gi xs k))) := by
  obtain ⟨a, cap, rfl, h1, h2, h3⟩ := h
  refine ⟨a, cap, rfl, h1, h2, fun k hk => ?_⟩
  rcases h3 with rfl | ⟨b, off, rfl, hlt, hc⟩
  · simp at hk
  · exact ⟨b, off, rfl, hlt, hc k hk⟩

theorem Reads.own {w : World} {base : Nat} {v : Value} {xs : List Int} (h : w.ownsRow base 3 1 v xs.length (xs.map (Value.int .i64))) : Reads w v xs := by
  obtain ⟨hl, h⟩ := h
  rcases h with ⟨rfl, h0⟩ | ⟨g, cap, cur, rfl, hb, hg, hn, hm, hc, ht⟩
  · have : xs = [] := List.eq_nil_of_length_eq_zero h0
    subst this; exact Reads.nil w
  · refine ⟨_, cap, rfl, hn, hm, .inr ⟨g, 0, rfl, ?_, fun j hj => ?_⟩⟩
    · exact (Array.getElem?_eq_some_iff.1 hg).1
    · have hj' : j < cur.size := by omega
      have e : cur[j]? = (xs.map (Value.int .i64))[j]? := by
        rw [← ht]; simp [hj]
      simp [World.cell?, hg, e, hj, gi]

/-- what the guide's shell tells of a slice of ints that came in -/
def IsRow (w : World) (a : Option Addr) (len cap : Nat) (zs : List Int) : Prop :=
  (a = none ∧ len = 0 ∧ cap = 0 ∧ zs = []) ∨
  ∃ x, a = some x ∧ len ≤ cap ∧ cap ≤ maxLen ∧ zs.length = cap ∧ (∀ i, i < zs.length → w.cell? (x.add i) = some (.int .i64 (zs.getD i 0))) ∧ ∀ n ∈ zs, (Lit.int .i64 n).wf = true
theorem int_rng {n : Int} (h : (Lit.int .i64 n).wf = true) : -9223372036854775808 ≤ n ∧ n ≤ 9223372036854775807 := by
  simp [Lit.wf, IntKind.min, IntKind.max, IntKind.signed, IntKind.bits] at h; omega
theorem IsRow.reads {w : World} {a : Option Addr} {len cap : Nat} {zs : List Int} (h : IsRow w a len cap zs) : Reads w (.slice a len cap) (zs.take len) := by
  rcases h with ⟨rfl, rfl, rfl, rfl⟩ | ⟨x, rfl, h1, h2, h3, h4, h5⟩
  · exact ⟨none, 0, by simp, by simp, by simp [maxLen], .inl (by simp)⟩
  · refine ⟨some x, cap, by simp [h3, h1], by simp [h3, h1], h2, ?_⟩
    by_cases h0 : len = 0
    · exact .inl (by simp [h0])
    · have hx := h4 0 (by omega)
      have hsp : x.spot = none := by
        have : x.add 0 = x := by simp [Addr.add]
        rw [this] at hx
        exact World.cell?_spot hx
      obtain ⟨b, o, sp⟩ := x
      simp only at hsp
      subst hsp
      refine .inr ⟨b, o, rfl, World.block_lt_of_cell? w _ hx, fun j hj => ?_⟩
      have hj' : j < len := by simp at hj; omega
      have := h4 j (by omega)
      have hadd : (⟨b, o, none⟩ : Addr).add j = ⟨b, o + j, none⟩ := by unfold Addr.add; split <;> simp_all
      rw [hadd] at this
      rw [this]
      simp [gi, List.getElem?_take, hj']
theorem IsRow.rng {w : World} {a : Option Addr} {len cap : Nat} {zs : List Int} (h : IsRow w a len cap zs) : ∀ x ∈ zs.take len, -9223372036854775808 ≤ x ∧ x ≤ 9223372036854775807 := by
  intro x hx
  rcases h with ⟨rfl, rfl, rfl, rfl⟩ | ⟨y, rfl, h1, h2, h3, h4, h5⟩
  · simp at hx
  · exact int_rng (h5 x (List.mem_of_mem_take hx))

theorem ret_int {k : IntKind} {a b : Int} (h : a = b) : Ending.returned (.int k a) = .returned (.int k b) := by rw [h]
theorem ret_bool {a b : Bool} (h : a = b) : Ending.returned (.bool a) = .returned (.bool b) := by rw [h]

/-- the first place of a number in a list, or -1 -/
def idx (xs : List Int) (x : Int) : Int := if x ∈ xs then (xs.idxOf x : Nat) else -1

theorem idx_at {xs : List Int} {x : Int} {k : Nat} (hk : k < xs.length) (h : gi xs k = x) (hn : x ∉ xs.take k) : idx xs x = k := by
  have hx : xs[k] = x := by rw [← h, gi_lt hk]
  have hm : x ∈ xs := by rw [← hx]; exact List.getElem_mem hk
  unfold idx; rw [if_pos hm]
  have h1 : xs.idxOf x ≤ k := by
    refine Nat.le_of_not_lt fun hlt => ?_
    have := List.not_of_lt_findIdx (p := (· == x)) (xs := xs) (i := k) hlt
    simp [hx] at this
  have h2 : ¬ xs.idxOf x < k := by
    intro hlt
    apply hn
    rw [List.mem_take_iff_getElem]
    exact ⟨xs.idxOf x, by have := List.idxOf_lt_length_of_mem hm; omega, List.getElem_idxOf _⟩
  omega
theorem idx_rng (xs : List Int) (x : Int) : -1 ≤ idx xs x ∧ idx xs x ≤ xs.length := by
  unfold idx; split
  · have := List.idxOf_le_length (a := x) (l := xs); omega
  · omega
theorem idx_no {xs : List Int} {x : Int} (h : x ∉ xs) : idx xs x = -1 := by unfold idx; rw [if_neg h]

theorem heap_alloc_at (w : World) (o : Obj) (i : Nat) (h : i = w.heap.size) : (w.alloc o).heap[i]? = some o := by subst h; exact heap_alloc_new w o
theorem heap_alloc_lt (w : World) (o : Obj) (i : Nat) (h : i < w.heap.size) : (w.alloc o).heap[i]? = w.heap[i]? := by unfold World.alloc; simp [Array.getElem?_push, show i ≠ w.heap.size by omega]

/-! ### what an invariant of a range statement abides -/
theorem own_block {B : Nat} {W W' : World} {row : Option Nat} (hg : W.grownBy W' row) (hr : ∀ r, row = some r → B ≤ r ∧ ∃ o : Obj, W.heap[r]? = some o ∧ o.isCells = false) {k : Nat} {o : Obj} (hk : k < B) (h : W.heap[k]? = some o) : W'.heap[k]? = some o :=
  (hg.block k (Array.getElem?_eq_some_iff.1 h).1 (fun e => by have := (hr k e.symm).1; omega)).trans h
theorem own_cells {B : Nat} {W W' : World} {row : Option Nat} (hg : W.grownBy W' row) (hr : ∀ r, row = some r → B ≤ r ∧ ∃ o : Obj, W.heap[r]? = some o ∧ o.isCells = false) {k : Nat} {cs : Array Value} {t : TypeId} {fr : Nat × Nat} (h : W.heap[k]? = some (.cells cs t fr)) : W'.heap[k]? = some (.cells cs t fr) :=
  (hg.block k (Array.getElem?_eq_some_iff.1 h).1 (fun e => by obtain ⟨o, ho, hc⟩ := (hr k e.symm).2; rw [h] at ho; cases ho; cases hc)).trans h
theorem heap_lt {W : World} {k : Nat} {o : Obj} (h : W.heap[k]? = some o) : k < W.heap.size := (Array.getElem?_eq_some_iff.1 h).1
theorem cell_of {W : World} {k : Nat} {cs : Array Value} {t : TypeId} {fr : Nat × Nat} (h : W.heap[k]? = some (.cells cs t fr)) {j : Nat} {v : Value} (hj : cs[j]? = some v) : W.cell? ⟨k, j, none⟩ = some v := (cell_of_row _ _ _ _ _ _ h).trans hj
theorem free_of {W : World} {k : Nat} {cs : Array Value} {t : TypeId} (h : W.heap[k]? = some (.cells cs t (0, 0))) (j : Nat) : W.frozen? ⟨k, j, none⟩ = false := frozen_of_row _ _ _ _ _ h
theorem set_same {W : World} {k : Nat} {v u : Value} {t : TypeId} (h : W.heap[k]? = some (.cells #[v] t (0, 0))) : (W.setCell ⟨k, 0, none⟩ u).heap[k]? = some (.cells #[u] t (0, 0)) := heap_setCell_same _ _ _ _ _ _ h
theorem set_other {W : World} {k i : Nat} {u : Value} {o : Option Obj} (h : W.heap[k]? = o) (hne : k ≠ i) : (W.setCell ⟨i, 0, none⟩ u).heap[k]? = o := (heap_setCell_other _ _ _ _ hne).trans h
theorem alloc_old {W : World} {k : Nat} {o o' : Obj} (h : W.heap[k]? = some o) : (W.alloc o').heap[k]? = some o := (heap_alloc_lt _ _ _ (heap_lt h)).trans h
theorem grown_old {W W' : World} {row : Option Nat} (hg : W.grownBy W' row) {k : Nat} {o : Obj} (h : W.heap[k]? = some o) (hne : row ≠ some k) : W'.heap[k]? = some o := (hg.block k (heap_lt h) (fun e => hne e.symm)).trans h

theorem putObj_other {W : World} {k D : Nat} {o' : Obj} {o : Option Obj} (h : W.heap[k]? = o) (hne : k ≠ D) : (W.putObj D o').heap[k]? = o := by
  have : ¬ D = k := fun e => hne e.symm
  simp [World.putObj, Array.getElem?_setIfInBounds, this, h]

/-! ### results that lie in cells -/
theorem loadVar_cell {P : Program} {w : World} {g : Nat} {ty : TypeId} {v : Value} {t : TypeId} {fr : Nat × Nat} (ha : (isAgg ty).run P w = .ok false w) (hc : w.heap[g]? = some (.cells #[v] t fr)) :
    (loadVar ty ⟨g, 0, none⟩).run P w = .ok v w := by
  have hc' : w.cell? ⟨g, 0, none⟩ = some v := cell_of hc rfl
  unfold loadVar
  rw [Sem.run_bind, ha]
  simp only [Result.andThen_ok]
  simp [load, Sem.run, hc']
theorem results_cell1 {P : Program} {fn : Func} {p : Tmp} {ty : TypeId} (h : fn.results = #[.cell p ty]) {tmps : Array Value} {w : World} {g : Nat} {v : Value} {t : TypeId} {fr : Nat × Nat}
    (hp : tmps.getD p undef = .pointer (some ⟨g, 0, none⟩)) (ha : (isAgg ty).run P w = .ok false w) (hc : w.heap[g]? = some (.cells #[v] t fr)) : (results fn tmps).run P w = .ok v w := by
  have hp' : tmps[p]?.getD undef = .pointer (some ⟨g, 0, none⟩) := by simpa using hp
  simp [results, h, hp', asAddr, loadVar_cell ha hc]

theorem results_cell3 {P : Program} {fn : Func} {p1 p2 p3 : Tmp} {t1 t2 t3 : TypeId} (h : fn.results = #[.cell p1 t1, .cell p2 t2, .cell p3 t3]) {tmps : Array Value} {w : World} {g1 g2 g3 : Nat} {v1 v2 v3 : Value}
    (h1 : tmps.getD p1 undef = .pointer (some ⟨g1, 0, none⟩)) (h2 : tmps.getD p2 undef = .pointer (some ⟨g2, 0, none⟩)) (h3 : tmps.getD p3 undef = .pointer (some ⟨g3, 0, none⟩))
    (l1 : (loadVar t1 ⟨g1, 0, none⟩).run P w = .ok v1 w) (l2 : (loadVar t2 ⟨g2, 0, none⟩).run P w = .ok v2 w) (l3 : (loadVar t3 ⟨g3, 0, none⟩).run P w = .ok v3 w) : (results fn tmps).run P w = .ok (.tuple #[v1, v2, v3]) w := by
  have h1' : tmps[p1]?.getD undef = .pointer (some ⟨g1, 0, none⟩) := by simpa using h1
  have h2' : tmps[p2]?.getD undef = .pointer (some ⟨g2, 0, none⟩) := by simpa using h2
  have h3' : tmps[p3]?.getD undef = .pointer (some ⟨g3, 0, none⟩) := by simpa using h3
  simp [results, h, h1', h2', h3', asAddr, l1, l2, l3]

theorem infoInt : (Try.prog.info? 3).map (fun i => (i.zero, i.size, i.bytes)) = some (some (.int .i64 0), 1, 8) := by kernel_rfl

theorem own_mono {w : World} {b b' : Nat} {e : TypeId} {s : Nat} {v : Value} {n : Nat} {xs : List Value} (h : w.ownsRow b e s v n xs) (hb : b' ≤ b) : w.ownsRow b' e s v n xs := by
  obtain ⟨h1, h2 | ⟨g, cap, cur, h3, h4, h5⟩⟩ := h
  · exact ⟨h1, .inl h2⟩
  · exact ⟨h1, .inr ⟨g, cap, cur, h3, Nat.le_trans hb h4, h5⟩⟩

theorem _root_.Go.World.ownsRow.below' {w w' : World} {b : Nat} {e : TypeId} {s : Nat} {v : Value} {n : Nat} {xs : List Value} (h : w.ownsRow b e s v n xs) (hb : Below w.heap.size w w') : w'.ownsRow b e s v n xs := by
  obtain ⟨h1, h2 | ⟨g, cap, cur, h3, h4, h5, h6⟩⟩ := h
  · exact ⟨h1, .inl h2⟩
  · exact ⟨h1, .inr ⟨g, cap, cur, h3, h4, (hb.block g (Array.getElem?_eq_some_iff.1 h5).1).trans h5, h6⟩⟩

/-- 'v' is a slice of ints that has been collected since the world was 'w0': it reads 'xs' and lies in memory that is new since then. -/
structure Col (w0 w : World) (v : Value) (xs : List Int) : Prop where
  own : w.ownsRow w0.heap.size 3 1 v xs.length (xs.map (Value.int .i64))
  below : Below w0.heap.size w0 w
theorem Col.nil (w0 : World) : Col w0 w0 (.slice none 0 0) [] := ⟨World.ownsRow_nil _ _ _ _, Below.refl _ _⟩
theorem Col.reads {w0 w : World} {v : Value} {xs : List Int} (h : Col w0 w v xs) : Reads w v xs := Reads.own h.own
theorem Col.lower {w w0 w' : World} {v : Value} {xs : List Int} (h : Col w0 w' v xs) (hb : Below w.heap.size w w0) : Col w w' v xs :=
  ⟨own_mono h.own hb.size, hb.trans (h.below.mono hb.size)⟩
theorem Col.step {w0 w w' : World} {v : Value} {xs : List Int} (h : Col w0 w v xs) (hb : Below w.heap.size w w') : Col w0 w' v xs := ⟨h.own.below' hb, h.below.trans (hb.mono h.below.size)⟩
theorem Col.drew {w0 w : World} {v : Value} {xs : List Int} (h : Col w0 w v xs) : Col w0 w.drew v xs := ⟨h.own, h.below.drew⟩

/-- 'out = append(out, y)' of a slice of ints that has been collected since 'w0'. -/
theorem append_int {ops : Array Oper} {rest : List Oper} {o : Oper} {a : Act} {w0 w : World} {Q : Exit → Act → World → Prop} (hgd : o.guard = none) (s x : Operand)
    (ho : o.op = .call { callee := .builtin .append, args := #[s, x], argTypes := #[51, 51] }) {v : Value} {xs : List Int} (hc : Col w0 w v xs) (hs : a.eval s = v)
    (y : Int) (hx : a.eval x = .slice (some ⟨w.heap.size, 0, none⟩) 1 1) (hlen : xs.length ≤ 1000000000)
    (h : ∀ v' w', Col w0 w' v' (xs ++ [y]) → v' ≠ .slice none 0 0 → wpList Try.prog ops Q rest (a.put o.dst v') w') : wpList Try.prog ops Q (o :: rest) a (w.alloc (.cells #[.int .i64 y] 3)) := by
  obtain ⟨i0, hi, hz0, hz1, hz2⟩ := info_parts infoInt
  refine wpList_append_own _ hgd s x 51 ho w0.heap.size 3 i0 (.int .i64 0) 1 8 Try.underlying51 hi hz0 hz1 hz2 rfl (by decide) v xs.length (xs.map (Value.int .i64)) hs (hc.own.alloc _) ⟨w.heap.size, 0, none⟩ 1 1 [.int .i64 y] hx rfl (cell_one_new _ _ _) (by simp [Value.oneCell']) (by simp only [maxLen]; omega) (by omega) (by have := hc.below.size; simp; omega) ?_
  intro v' w' hown' hgrow hnil
  refine h v' w' ⟨by simpa using hown', ?_⟩ (fun e => by simpa using (hnil.1 e).2)
  refine (hc.below.alloc hc.below.size _).grown hgrow (by have := hc.below.size; simp; omega) ?_
  intro k hk
  exact (World.ownsRow.lt (hc.own.alloc (.cells #[.int .i64 y] 3)) k hk.symm.symm).1

/-- the same, in a region that draws its order (go_region_held3) -/
theorem step_append_int {ops : Array Oper} {o : Oper} {a : Act} {w0 w : World} {K : Act → World → Prop} {Q : Exit → Act → World → Prop} {E : Prop} (hgd : o.guard = none) (s x : Operand)
    (ho : o.op = .call { callee := .builtin .append, args := #[s, x], argTypes := #[51, 51] }) {v : Value} {xs : List Int} (hc : Col w0 w v xs) (hs : a.eval s = v)
    (y : Int) (hx : a.eval x = .slice (some ⟨w.heap.size, 0, none⟩) 1 1) (hlen : xs.length ≤ 1000000000)
    (h : ∀ v' w', Col w0 w' v' (xs ++ [y]) → v' ≠ .slice none 0 0 → K (a.put o.dst v') w') :
    if Region.wanted o (yielded ops a.tmps) = true then Oper.wp Try.prog o a ((w.alloc (.cells #[.int .i64 y] 3)).drew) K Q else E := by
  have hw : Region.wanted o (yielded ops a.tmps) = true := by simp [Region.wanted, hgd]
  rw [if_pos hw]
  obtain ⟨i0, hi, hz0, hz1, hz2⟩ := info_parts infoInt
  refine wp_append_own _ s x 51 ho w0.heap.size 3 i0 (.int .i64 0) 1 8 Try.underlying51 hi hz0 hz1 hz2 rfl (by decide) v xs.length (xs.map (Value.int .i64)) hs (hc.own.alloc _).drew ⟨w.heap.size, 0, none⟩ 1 1 [.int .i64 y] hx rfl (cell_one_new _ _ _) (by simp [Value.oneCell']) (by simp only [maxLen]; omega) (by omega) (by have := hc.below.size; simp; omega) ?_
  intro v' w' hown' hgrow hnil
  refine h v' w' ⟨by simpa using hown', ?_⟩ (fun e => by simpa using (hnil.1 e).2)
  refine (hc.below.alloc hc.below.size _).drew.grown hgrow (by have := hc.below.size; simp; omega) ?_
  intro k hk
  exact (World.ownsRow.lt (hc.own.alloc (.cells #[.int .i64 y] 3)) k hk.symm.symm).1
end Go.Proofs.Ytfjbggodniemeaa
