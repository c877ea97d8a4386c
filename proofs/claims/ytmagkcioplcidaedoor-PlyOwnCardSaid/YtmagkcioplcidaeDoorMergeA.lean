import Derived.Test.YtmagkcioplcidaeDoorProg
import Derived.WalkKit
import Derived.Tactics
import Derived.OwnWalk
import Derived.RowKit
import Derived.Deep.LoopGhost
import Derived.Deep.QuietTactic
import Derived.BigQuiet
import Derived.BigGuardPart
import Derived.Outline
import Derived.Lib.Hide
import Derived.Laws.MakeOwn
import Derived.Laws.OwnMore
import Derived.Deep.OwnRows
import Derived.StillTailTactics
import Derived.Laws.Tables
import Derived.Laws.CopyOwn
import Derived.Maps.AppendAt
import Derived.IntWalk
import Derived.Deep.RegionHeld3
import Derived.Deep.AppendLies
import Derived.RangeFuncNested
import Derived.RangeFuncBound
import Derived.RangeFuncCalls
import Derived.RangeFuncLeaves
import Derived.Lib.TrailingZeros
import Derived.Shelf.Spec.TrailingZeros
import Derived.Test.YtmagkcioplcidaeDoorRows
import Derived.LaidMore
import Derived.OpenShut
import Derived.ChangeArms
import Derived.Shelf.Abstract
import Derived.Shelf.RegionOpen
import Derived.OwnWalkIn
import Derived.TacticsInMore
import Derived.LoopNIn
import Derived.LoopIn
import Derived.Stop.RegionWithIn
import Derived.Sort.QuietIn
import Derived.Sort.QuietTacIn
import Derived.Sort.QuietThIn
import Derived.Sort.BigQuietIn
import Derived.Lib.QuietBelow
/- Words for slices of ints that are read, and for worlds that keep what was there. -/
set_option linter.unusedVariables false
set_option linter.unusedSimpArgs false
namespace Go.Proofs.YtmagkcioplcidaeDoor
open Go.RowKit

/-- the element at a place (a word of its own, that simp does not look into) -/
def gi (xs : List Int) (k : Nat) : Int := xs.getD k 0
theorem gi_lt {xs : List Int} {k : Nat} (h : k < xs.length) : gi xs k = xs[k] := by simp [gi, h]
theorem gi_mem {xs : List Int} {k : Nat} (h : k < xs.length) : gi xs k ∈ xs := by rw [gi_lt h]; exact List.getElem_mem h

/-- 'v' is a slice value whose elements read 'xs' in 'w'. -/
def Reads (w : World) (v : Value) (xs : List Int) : Prop :=
  ∃ a cap, v = .slice a xs.length cap ∧ xs.length ≤ cap ∧ cap ≤ maxLen ∧
    (xs = [] ∨ ∃ b off, a = some ⟨b, off, none⟩ ∧ b < w.heap.size ∧ ∀ j, j < xs.length → w.cell? ⟨b, off + j, none⟩ = some (.int .i64 (gi xs j)))

theorem Reads.below {w w' : World} {v : Value} {xs : List Int} (h : Reads w v xs) (hb : Below w.heap.size w w') : Reads w' v xs := by
  obtain ⟨a, cap, rfl, h1, h2, h3⟩ := h
  refine ⟨a, cap, rfl, h1, h2, ?_⟩
  rcases h3 with h3 | ⟨b, off, rfl, hlt, hc⟩
  · exact .inl h3
  · refine .inr ⟨b, off, rfl, Nat.lt_of_lt_of_le hlt hb.size, fun j hj => ?_⟩
    rw [hb.cell (p := ⟨b, off + j, none⟩) hlt]; exact hc j hj

theorem Reads.nil (w : World) : Reads w (.slice none 0 0) [] := ⟨none, 0, rfl, Nat.le_refl _, by simp [maxLen], .inl rfl⟩

/-- the blocks of S are as they were -/
def SameS (S : Nat → Prop) (w w' : World) : Prop := ∀ b, S b → w'.heap[b]? = w.heap[b]?
theorem SameS.refl (S : Nat → Prop) (w : World) : SameS S w w := fun _ _ => rfl
theorem SameS.trans {S : Nat → Prop} {a b c : World} (h : SameS S a b) (k : SameS S b c) : SameS S a c := fun i hi => (k i hi).trans (h i hi)
theorem SameS.drew {S : Nat → Prop} {a b : World} (h : SameS S a b) : SameS S a b.drew := h
theorem SameS.of_below {S : Nat → Prop} {n : Nat} {a b : World} (h : Below n a b) (hS : ∀ i, S i → i < n) : SameS S a b := fun i hi => h.block i (hS i hi)
theorem SameS.cell {S : Nat → Prop} {w w' : World} (h : SameS S w w') {p : Addr} (hp : S p.block) : w'.cell? p = w.cell? p := World.cell?_of_block (h p.block hp)
theorem SameS.putObj {S : Nat → Prop} {w : World} {l : Nat} {o' : Obj} (h : ∀ i, S i → i ≠ l) : SameS S w (w.putObj l o') := fun i hi => by
  have : ¬ l = i := fun e => h i hi e.symm
  simp [World.putObj, Array.getElem?_setIfInBounds, this]
def ReadsS (S : Nat → Prop) (w : World) (v : Value) (xs : List Int) : Prop :=
  ∃ a cap, v = .slice a xs.length cap ∧ xs.length ≤ cap ∧ cap ≤ maxLen ∧
    (xs = [] ∨ ∃ b off, a = some ⟨b, off, none⟩ ∧ S b ∧ ∀ j, j < xs.length → w.cell? ⟨b, off + j, none⟩ = some (.int .i64 (gi xs j)))
theorem ReadsS.same {S : Nat → Prop} {w w' : World} {v : Value} {xs : List Int} (h : ReadsS S w v xs) (hb : SameS S w w') : ReadsS S w' v xs := by
  obtain ⟨a, cap, rfl, h1, h2, h3⟩ := h
  refine ⟨a, cap, rfl, h1, h2, ?_⟩
  rcases h3 with h3 | ⟨b, off, rfl, hlt, hc⟩
  · exact .inl h3
  · exact .inr ⟨b, off, rfl, hlt, fun j hj => (hb.cell (p := ⟨b, off + j, none⟩) hlt).trans (hc j hj)⟩
theorem ReadsS.mono {S S' : Nat → Prop} {w : World} {v : Value} {xs : List Int} (h : ReadsS S w v xs) (hS : ∀ b, S b → S' b) : ReadsS S' w v xs := by
  obtain ⟨a, cap, rfl, h1, h2, h3⟩ := h
  exact ⟨a, cap, rfl, h1, h2, h3.imp id fun ⟨b, off, ha, hlt, hc⟩ => ⟨b, off, ha, hS b hlt, hc⟩⟩
theorem Reads.s {S : Nat → Prop} {w : World} {v : Value} {xs : List Int} (h : Reads w v xs) (hS : ∀ b, b < w.heap.size → S b) : ReadsS S w v xs := by
  obtain ⟨a, cap, rfl, h1, h2, h3⟩ := h
  exact ⟨a, cap, rfl, h1, h2, h3.imp id fun ⟨b, off, ha, hlt, hc⟩ => ⟨b, off, ha, hS b hlt, hc⟩⟩
theorem ReadsS.reads {S : Nat → Prop} {w : World} {v : Value} {xs : List Int} (h : ReadsS S w v xs) (hS : ∀ b, S b → b < w.heap.size) : Reads w v xs := by
  obtain ⟨a, cap, rfl, h1, h2, h3⟩ := h
  exact ⟨a, cap, rfl, h1, h2, h3.imp id fun ⟨b, off, ha, hlt, hc⟩ => ⟨b, off, ha, hS b hlt, hc⟩⟩
theorem ReadsS.open {S : Nat → Prop} {w : World} {v : Value} {xs : List Int} (h : ReadsS S w v xs) :
    ∃ a cap, v = .slice a xs.length cap ∧ xs.length ≤ cap ∧ cap ≤ maxLen ∧
      (∀ w', SameS S w w' → ∀ k, k < xs.length → ∃ b off, a = some ⟨b, off, none⟩ ∧ ∀ j, j < xs.length → w'.cell? ⟨b, off + j, none⟩ = some (.int .i64 (gi xs j))) := by
  obtain ⟨a, cap, rfl, h1, h2, h3⟩ := h
  refine ⟨a, cap, rfl, h1, h2, fun w' hb k hk => ?_⟩
  rcases h3 with rfl | ⟨b, off, rfl, hlt, hc⟩
  · simp at hk
  · exact ⟨b, off, rfl, fun j hj => (hb.cell (p := ⟨b, off + j, none⟩) hlt).trans (hc j hj)⟩

/-- a slice that is read, still read in a later world, as lying below the old heap's end -/
theorem Reads.later {w w' : World} {v : Value} {xs : List Int} (h : Reads w v xs) (hb : Below w.heap.size w w') : ReadsS (fun b => b < w.heap.size) w' v xs :=
  (Reads.s (S := fun b => b < w.heap.size) h (fun _ h => h)).same (SameS.of_below hb (fun _ h => h))

/-- What a walk over a slice that is read takes: the address is there once there is an element. -/
theorem Reads.open {w : World} {v : Value} {xs : List Int} (h : Reads w v xs) :
    ∃ a cap, v = .slice a xs.length cap ∧ xs.length ≤ cap ∧ cap ≤ maxLen ∧
      (∀ k, k < xs.length → ∃ b off, a = some ⟨b, off, none⟩ ∧ b < w.heap.size ∧ w.cell? ⟨b, off + k, none⟩ = some (.int .i64 (gi xs k))) := by
  obtain ⟨a, cap, rfl, h1, h2, h3⟩ := h
  refine ⟨a, cap, rfl, h1, h2, fun k hk => ?_⟩
  rcases h3 with rfl | ⟨b, off, rfl, hlt, hc⟩
  · simp at hk
  · exact ⟨b, off, rfl, hlt, hc k hk⟩

theorem Reads.own {w : World} {base : Nat} {v : Value} {xs : List Int} (h : w.ownsRow base 3 1 v xs.length (xs.map (Value.int .i64))) : Reads w v xs := by
  obtain ⟨hl, h⟩ := h
  rcases h with ⟨rfl, h0⟩ | ⟨g, cap, cur, rfl, hb, hg, hn, hm, hc, ht⟩
  · have : xs = [] := List.eq_nil_of_length_eq_zero h0
    subst this; exact Reads.nil w
  · refine ⟨_, cap, rfl, hn, hm, .inr ⟨g, 0, rfl, ?_, fun j hj => ?_⟩⟩
    · exact (Array.getElem?_eq_some_iff.1 hg).1
    · have hj' : j < cur.size := by omega
      have e : cur[j]? = (xs.map (Value.int .i64))[j]? := by
        rw [← ht]; simp [hj]
      simp [World.cell?, hg, e, hj, gi]

/-- what the guide's shell tells of a slice of ints that came in -/
def IsRow (w : World) (a : Option Addr) (len cap : Nat) (zs : List Int) : Prop :=
  (a = none ∧ len = 0 ∧ cap = 0 ∧ zs = []) ∨
  ∃ x, a = some x ∧ len ≤ cap ∧ cap ≤ maxLen ∧ zs.length = cap ∧ (∀ i, i < zs.length → w.cell? (x.add i) = some (.int .i64 (zs.getD i 0))) ∧ ∀ n ∈ zs, (Lit.int .i64 n).wf = true
theorem int_rng {n : Int} (h : (Lit.int .i64 n).wf = true) : -9223372036854775808 ≤ n ∧ n ≤ 9223372036854775807 := by
  simp [Lit.wf, IntKind.min, IntKind.max, IntKind.signed, IntKind.bits] at h; omega
theorem IsRow.reads {w : World} {a : Option Addr} {len cap : Nat} {zs : List Int} (h : IsRow w a len cap zs) : Reads w (.slice a len cap) (zs.take len) := by
  rcases h with ⟨rfl, rfl, rfl, rfl⟩ | ⟨x, rfl, h1, h2, h3, h4, h5⟩
  · exact ⟨none, 0, by simp, by simp, by simp [maxLen], .inl (by simp)⟩
  · refine ⟨some x, cap, by simp [h3, h1], by simp [h3, h1], h2, ?_⟩
    by_cases h0 : len = 0
    · exact .inl (by simp [h0])
    · have hx := h4 0 (by omega)
      have hsp : x.spot = none := by
        have : x.add 0 = x := by simp [Addr.add]
        rw [this] at hx
        exact World.cell?_spot hx
      obtain ⟨b, o, sp⟩ := x
      simp only at hsp
      subst hsp
      refine .inr ⟨b, o, rfl, World.block_lt_of_cell? w _ hx, fun j hj => ?_⟩
      have hj' : j < len := by simp at hj; omega
      have := h4 j (by omega)
      have hadd : (⟨b, o, none⟩ : Addr).add j = ⟨b, o + j, none⟩ := by unfold Addr.add; split <;> simp_all
      rw [hadd] at this
      rw [this]
      simp [gi, List.getElem?_take, hj']
theorem IsRow.rng {w : World} {a : Option Addr} {len cap : Nat} {zs : List Int} (h : IsRow w a len cap zs) : ∀ x ∈ zs.take len, -9223372036854775808 ≤ x ∧ x ≤ 9223372036854775807 := by
  intro x hx
  rcases h with ⟨rfl, rfl, rfl, rfl⟩ | ⟨y, rfl, h1, h2, h3, h4, h5⟩
  · simp at hx
  · exact int_rng (h5 x (List.mem_of_mem_take hx))

theorem ret_int {k : IntKind} {a b : Int} (h : a = b) : Ending.returned (.int k a) = .returned (.int k b) := by rw [h]
theorem ret_bool {a b : Bool} (h : a = b) : Ending.returned (.bool a) = .returned (.bool b) := by rw [h]

/-- the first place of a number in a list, or -1 -/
def idx (xs : List Int) (x : Int) : Int := if x ∈ xs then (xs.idxOf x : Nat) else -1

theorem idx_at {xs : List Int} {x : Int} {k : Nat} (hk : k < xs.length) (h : gi xs k = x) (hn : x ∉ xs.take k) : idx xs x = k := by
  have hx : xs[k] = x := by rw [← h, gi_lt hk]
  have hm : x ∈ xs := by rw [← hx]; exact List.getElem_mem hk
  unfold idx; rw [if_pos hm]
  have h1 : xs.idxOf x ≤ k := by
    refine Nat.le_of_not_lt fun hlt => ?_
    have := List.not_of_lt_findIdx (p := (· == x)) (xs := xs) (i := k) hlt
    simp [hx] at this
  have h2 : ¬ xs.idxOf x < k := by
    intro hlt
    apply hn
    rw [List.mem_take_iff_getElem]
    exact ⟨xs.idxOf x, by have := List.idxOf_lt_length_of_mem hm; omega, List.getElem_idxOf _⟩
  omega
theorem idx_rng (xs : List Int) (x : Int) : -1 ≤ idx xs x ∧ idx xs x ≤ xs.length := by
  unfold idx; split
  · have := List.idxOf_le_length (a := x) (l := xs); omega
  · omega
theorem idx_no {xs : List Int} {x : Int} (h : x ∉ xs) : idx xs x = -1 := by unfold idx; rw [if_neg h]

theorem heap_alloc_at (w : World) (o : Obj) (i : Nat) (h : i = w.heap.size) : (w.alloc o).heap[i]? = some o := by subst h; exact heap_alloc_new w o
theorem heap_alloc_lt (w : World) (o : Obj) (i : Nat) (h : i < w.heap.size) : (w.alloc o).heap[i]? = w.heap[i]? := by unfold World.alloc; simp [Array.getElem?_push, show i ≠ w.heap.size by omega]

/-! ### what an invariant of a range statement abides -/
theorem own_block {B : Nat} {W W' : World} {row : Option Nat} (hg : W.grownBy W' row) (hr : ∀ r, row = some r → B ≤ r ∧ ∃ o : Obj, W.heap[r]? = some o ∧ o.isCells = false) {k : Nat} {o : Obj} (hk : k < B) (h : W.heap[k]? = some o) : W'.heap[k]? = some o :=
  (hg.block k (Array.getElem?_eq_some_iff.1 h).1 (fun e => by have := (hr k e.symm).1; omega)).trans h
theorem own_cells {B : Nat} {W W' : World} {row : Option Nat} (hg : W.grownBy W' row) (hr : ∀ r, row = some r → B ≤ r ∧ ∃ o : Obj, W.heap[r]? = some o ∧ o.isCells = false) {k : Nat} {cs : Array Value} {t : TypeId} {fr : Nat × Nat} (h : W.heap[k]? = some (.cells cs t fr)) : W'.heap[k]? = some (.cells cs t fr) :=
  (hg.block k (Array.getElem?_eq_some_iff.1 h).1 (fun e => by obtain ⟨o, ho, hc⟩ := (hr k e.symm).2; rw [h] at ho; cases ho; cases hc)).trans h
theorem heap_lt {W : World} {k : Nat} {o : Obj} (h : W.heap[k]? = some o) : k < W.heap.size := (Array.getElem?_eq_some_iff.1 h).1
theorem cell_of {W : World} {k : Nat} {cs : Array Value} {t : TypeId} {fr : Nat × Nat} (h : W.heap[k]? = some (.cells cs t fr)) {j : Nat} {v : Value} (hj : cs[j]? = some v) : W.cell? ⟨k, j, none⟩ = some v := (cell_of_row _ _ _ _ _ _ h).trans hj
theorem free_of {W : World} {k : Nat} {cs : Array Value} {t : TypeId} (h : W.heap[k]? = some (.cells cs t (0, 0))) (j : Nat) : W.frozen? ⟨k, j, none⟩ = false := frozen_of_row _ _ _ _ _ h
theorem set_same {W : World} {k : Nat} {v u : Value} {t : TypeId} (h : W.heap[k]? = some (.cells #[v] t (0, 0))) : (W.setCell ⟨k, 0, none⟩ u).heap[k]? = some (.cells #[u] t (0, 0)) := heap_setCell_same _ _ _ _ _ _ h
theorem set_other {W : World} {k i : Nat} {u : Value} {o : Option Obj} (h : W.heap[k]? = o) (hne : k ≠ i) : (W.setCell ⟨i, 0, none⟩ u).heap[k]? = o := (heap_setCell_other _ _ _ _ hne).trans h
theorem alloc_old {W : World} {k : Nat} {o o' : Obj} (h : W.heap[k]? = some o) : (W.alloc o').heap[k]? = some o := (heap_alloc_lt _ _ _ (heap_lt h)).trans h
theorem grown_old {W W' : World} {row : Option Nat} (hg : W.grownBy W' row) {k : Nat} {o : Obj} (h : W.heap[k]? = some o) (hne : row ≠ some k) : W'.heap[k]? = some o := (hg.block k (heap_lt h) (fun e => hne e.symm)).trans h

theorem putObj_other {W : World} {k D : Nat} {o' : Obj} {o : Option Obj} (h : W.heap[k]? = o) (hne : k ≠ D) : (W.putObj D o').heap[k]? = o := by
  have : ¬ D = k := fun e => hne e.symm
  simp [World.putObj, Array.getElem?_setIfInBounds, this, h]

/-! ### results that lie in cells -/
theorem loadVar_cell {P : Program} {w : World} {g : Nat} {ty : TypeId} {v : Value} {t : TypeId} {fr : Nat × Nat} (ha : (isAgg ty).run P w = .ok false w) (hc : w.heap[g]? = some (.cells #[v] t fr)) :
    (loadVar ty ⟨g, 0, none⟩).run P w = .ok v w := by
  have hc' : w.cell? ⟨g, 0, none⟩ = some v := cell_of hc rfl
  unfold loadVar
  rw [Sem.run_bind, ha]
  simp only [Result.andThen_ok]
  simp [load, Sem.run, hc']
theorem results_cell1 {P : Program} {fn : Func} {p : Tmp} {ty : TypeId} (h : fn.results = #[.cell p ty]) {tmps : Array Value} {w : World} {g : Nat} {v : Value} {t : TypeId} {fr : Nat × Nat}
    (hp : tmps.getD p undef = .pointer (some ⟨g, 0, none⟩)) (ha : (isAgg ty).run P w = .ok false w) (hc : w.heap[g]? = some (.cells #[v] t fr)) : (results fn tmps).run P w = .ok v w := by
  have hp' : tmps[p]?.getD undef = .pointer (some ⟨g, 0, none⟩) := by simpa using hp
  simp [results, h, hp', asAddr, loadVar_cell ha hc]

theorem results_cell3 {P : Program} {fn : Func} {p1 p2 p3 : Tmp} {t1 t2 t3 : TypeId} (h : fn.results = #[.cell p1 t1, .cell p2 t2, .cell p3 t3]) {tmps : Array Value} {w : World} {g1 g2 g3 : Nat} {v1 v2 v3 : Value}
    (h1 : tmps.getD p1 undef = .pointer (some ⟨g1, 0, none⟩)) (h2 : tmps.getD p2 undef = .pointer (some ⟨g2, 0, none⟩)) (h3 : tmps.getD p3 undef = .pointer (some ⟨g3, 0, none⟩))
    (l1 : (loadVar t1 ⟨g1, 0, none⟩).run P w = .ok v1 w) (l2 : (loadVar t2 ⟨g2, 0, none⟩).run P w = .ok v2 w) (l3 : (loadVar t3 ⟨g3, 0, none⟩).run P w = .ok v3 w) : (results fn tmps).run P w = .ok (.tuple #[v1, v2, v3]) w := by
  have h1' : tmps[p1]?.getD undef = .pointer (some ⟨g1, 0, none⟩) := by simpa using h1
  have h2' : tmps[p2]?.getD undef = .pointer (some ⟨g2, 0, none⟩) := by simpa using h2
  have h3' : tmps[p3]?.getD undef = .pointer (some ⟨g3, 0, none⟩) := by simpa using h3
  simp [results, h, h1', h2', h3', asAddr, l1, l2, l3]

theorem infoInt : (Tryd.prog.info? 3).map (fun i => (i.zero, i.size, i.bytes)) = some (some (.int .i64 0), 1, 8) := by kernel_rfl

theorem own_mono {w : World} {b b' : Nat} {e : TypeId} {s : Nat} {v : Value} {n : Nat} {xs : List Value} (h : w.ownsRow b e s v n xs) (hb : b' ≤ b) : w.ownsRow b' e s v n xs := by
  obtain ⟨h1, h2 | ⟨g, cap, cur, h3, h4, h5⟩⟩ := h
  · exact ⟨h1, .inl h2⟩
  · exact ⟨h1, .inr ⟨g, cap, cur, h3, Nat.le_trans hb h4, h5⟩⟩

theorem _root_.Go.World.ownsRow.below' {w w' : World} {b : Nat} {e : TypeId} {s : Nat} {v : Value} {n : Nat} {xs : List Value} (h : w.ownsRow b e s v n xs) (hb : Below w.heap.size w w') : w'.ownsRow b e s v n xs := by
  obtain ⟨h1, h2 | ⟨g, cap, cur, h3, h4, h5, h6⟩⟩ := h
  · exact ⟨h1, .inl h2⟩
  · exact ⟨h1, .inr ⟨g, cap, cur, h3, h4, (hb.block g (Array.getElem?_eq_some_iff.1 h5).1).trans h5, h6⟩⟩

/-- 'v' is a slice of ints that has been collected since the world was 'w0': it reads 'xs' and lies in memory that is new since then. -/
structure Col (w0 w : World) (v : Value) (xs : List Int) : Prop where
  own : w.ownsRow w0.heap.size 3 1 v xs.length (xs.map (Value.int .i64))
  below : Below w0.heap.size w0 w
theorem Col.nil (w0 : World) : Col w0 w0 (.slice none 0 0) [] := ⟨World.ownsRow_nil _ _ _ _, Below.refl _ _⟩
theorem Col.reads {w0 w : World} {v : Value} {xs : List Int} (h : Col w0 w v xs) : Reads w v xs := Reads.own h.own
theorem Col.lower {w w0 w' : World} {v : Value} {xs : List Int} (h : Col w0 w' v xs) (hb : Below w.heap.size w w0) : Col w w' v xs :=
  ⟨own_mono h.own hb.size, hb.trans (h.below.mono hb.size)⟩
theorem Col.step {w0 w w' : World} {v : Value} {xs : List Int} (h : Col w0 w v xs) (hb : Below w.heap.size w w') : Col w0 w' v xs := ⟨h.own.below' hb, h.below.trans (hb.mono h.below.size)⟩
theorem Col.drew {w0 w : World} {v : Value} {xs : List Int} (h : Col w0 w v xs) : Col w0 w.drew v xs := ⟨h.own, h.below.drew⟩

/-- 'out = append(out, y)' of a slice of ints that has been collected since 'w0'. -/
theorem append_int {ops : Array Oper} {rest : List Oper} {o : Oper} {a : Act} {w0 w : World} {Q : Exit → Act → World → Prop} (hgd : o.guard = none) (s x : Operand)
    (ho : o.op = .call { callee := .builtin .append, args := #[s, x], argTypes := #[22, 22] }) {v : Value} {xs : List Int} (hc : Col w0 w v xs) (hs : a.eval s = v)
    (y : Int) (hx : a.eval x = .slice (some ⟨w.heap.size, 0, none⟩) 1 1) (hlen : xs.length ≤ 1000000000)
    (h : ∀ v' w', Col w0 w' v' (xs ++ [y]) → v' ≠ .slice none 0 0 → wpList Tryd.prog ops Q rest (a.put o.dst v') w') : wpList Tryd.prog ops Q (o :: rest) a (w.alloc (.cells #[.int .i64 y] 3)) := by
  obtain ⟨i0, hi, hz0, hz1, hz2⟩ := info_parts infoInt
  refine wpList_append_own _ hgd s x 22 ho w0.heap.size 3 i0 (.int .i64 0) 1 8 Tryd.underlying22 hi hz0 hz1 hz2 rfl (by decide) v xs.length (xs.map (Value.int .i64)) hs (hc.own.alloc _) ⟨w.heap.size, 0, none⟩ 1 1 [.int .i64 y] hx rfl (cell_one_new _ _ _) (by simp [Value.oneCell']) (by simp only [maxLen]; omega) (by omega) (by have := hc.below.size; simp; omega) ?_
  intro v' w' hown' hgrow hnil
  refine h v' w' ⟨by simpa using hown', ?_⟩ (fun e => by simpa using (hnil.1 e).2)
  refine (hc.below.alloc hc.below.size _).grown hgrow (by have := hc.below.size; simp; omega) ?_
  intro k hk
  exact (World.ownsRow.lt (hc.own.alloc (.cells #[.int .i64 y] 3)) k hk.symm.symm).1

/-- the same, in a region that draws its order (go_region_held3) -/
theorem step_append_int {ops : Array Oper} {o : Oper} {a : Act} {w0 w : World} {K : Act → World → Prop} {Q : Exit → Act → World → Prop} {E : Prop} (hgd : o.guard = none) (s x : Operand)
    (ho : o.op = .call { callee := .builtin .append, args := #[s, x], argTypes := #[22, 22] }) {v : Value} {xs : List Int} (hc : Col w0 w v xs) (hs : a.eval s = v)
    (y : Int) (hx : a.eval x = .slice (some ⟨w.heap.size, 0, none⟩) 1 1) (hlen : xs.length ≤ 1000000000)
    (h : ∀ v' w', Col w0 w' v' (xs ++ [y]) → v' ≠ .slice none 0 0 → K (a.put o.dst v') w') :
    if Region.wanted o (yielded ops a.tmps) = true then Oper.wp Tryd.prog o a ((w.alloc (.cells #[.int .i64 y] 3)).drew) K Q else E := by
  have hw : Region.wanted o (yielded ops a.tmps) = true := by simp [Region.wanted, hgd]
  rw [if_pos hw]
  obtain ⟨i0, hi, hz0, hz1, hz2⟩ := info_parts infoInt
  refine wp_append_own _ s x 22 ho w0.heap.size 3 i0 (.int .i64 0) 1 8 Tryd.underlying22 hi hz0 hz1 hz2 rfl (by decide) v xs.length (xs.map (Value.int .i64)) hs (hc.own.alloc _).drew ⟨w.heap.size, 0, none⟩ 1 1 [.int .i64 y] hx rfl (cell_one_new _ _ _) (by simp [Value.oneCell']) (by simp only [maxLen]; omega) (by omega) (by have := hc.below.size; simp; omega) ?_
  intro v' w' hown' hgrow hnil
  refine h v' w' ⟨by simpa using hown', ?_⟩ (fun e => by simpa using (hnil.1 e).2)
  refine (hc.below.alloc hc.below.size _).drew.grown hgrow (by have := hc.below.size; simp; omega) ?_
  intro k hk
  exact (World.ownsRow.lt (hc.own.alloc (.cells #[.int .i64 y] 3)) k hk.symm.symm).1
end Go.Proofs.YtmagkcioplcidaeDoor

/- A range statement over an iterator that hands over what the body is told of: an element together with what holds of it in the world of its round. -/
set_option linter.unusedVariables false
set_option linter.unusedSimpArgs false
namespace Go.Proofs.YtmagkcioplcidaeDoor
open Go.RowKit

/-- the blocks that were there are as they were, but for those of X -/
def KeepX (X : Nat → Prop) (W W' : World) : Prop := W.heap.size ≤ W'.heap.size ∧ ∀ b, b < W.heap.size → ¬ X b → W'.heap[b]? = W.heap[b]?
theorem KeepX.refl (X : Nat → Prop) (W : World) : KeepX X W W := ⟨Nat.le_refl _, fun _ _ _ => rfl⟩
theorem KeepX.trans {X : Nat → Prop} {A B C : World} (h : KeepX X A B) (k : KeepX X B C) : KeepX X A C := ⟨Nat.le_trans h.1 k.1, fun b hb hx => (k.2 b (Nat.lt_of_lt_of_le hb h.1) hx).trans (h.2 b hb hx)⟩
theorem KeepX.of_below {X : Nat → Prop} {A B : World} (h : Below A.heap.size A B) : KeepX X A B := ⟨h.size, fun b hb _ => h.block b hb⟩
theorem KeepX.putObj {X : Nat → Prop} {W : World} {l : Nat} {o : Obj} (h : X l) : KeepX X W (W.putObj l o) := ⟨by simp [World.putObj], fun b hb hx => by
  have : ¬ l = b := fun e => hx (e ▸ h)
  simp [World.putObj, Array.getElem?_setIfInBounds, this]⟩
theorem KeepX.cell {X : Nat → Prop} {A B : World} (h : KeepX X A B) {p : Addr} (hp : p.block < A.heap.size) (hx : ¬ X p.block) : B.cell? p = A.cell? p := World.cell?_of_block (h.2 _ hp hx)
theorem KeepX.block {X : Nat → Prop} {A B : World} (h : KeepX X A B) {k : Nat} {o : Obj} (hk : A.heap[k]? = some o) (hx : ¬ X k) : B.heap[k]? = some o := (h.2 k (heap_lt hk) hx).trans hk
theorem Reads.keepX {X : Nat → Prop} {A B : World} {v : Value} {xs : List Int} (h : ReadsS (fun b => b < A.heap.size ∧ ¬ X b) A v xs) (hk : KeepX X A B) : ReadsS (fun b => b < B.heap.size ∧ ¬ X b) B v xs := by
  obtain ⟨a, cap, rfl, h1, h2, h3⟩ := h
  refine ⟨a, cap, rfl, h1, h2, h3.imp id ?_⟩
  rintro ⟨b, off, rfl, hlt, hc⟩
  exact ⟨b, off, rfl, ⟨Nat.lt_of_lt_of_le hlt.1 hk.1, hlt.2⟩, fun j hj => (hk.cell (p := ⟨b, off + j, none⟩) hlt.1 hlt.2).trans (hc j hj)⟩
theorem below_grown0 {W W' : World} (h : Below W.heap.size W W') : W.grownBy W' none := ⟨h.os, h.tape, h.output, h.size, fun k hk _ => h.block k hk⟩

section
variable {α : Type} {n : Nat} {P : Program}

/-- the contract of an iterator: at each call of yield, Px holds of what came before, of the element and of the world -/
def Given (n : Nat) (P : Program) (gf : Nat) (lb : Array Value) (encs : α → Array Value) (Kp : World → World → Prop) (S Sp : List α → Prop) (Px : List α → α → World → Prop) (w : World) : Prop :=
  ∀ (l : Nat) (J Jx : List α → World → Prop) (W : World), Below w.heap.size w W → w.heap.size + 2 ≤ W.heap.size → AbidesFrom W.heap.size J → AbidesFrom W.heap.size Jx →
    (∀ pre x W1, J pre W1 → Px pre x W1 → YieldAt Fence.wide (n - 1) P l (encs x) W1 fun e W' => (e = .returned (.bool true) ∧ J (pre ++ [x]) W' ∧ Kp W1 W') ∨ (e = .returned (.bool false) ∧ Jx (pre ++ [x]) W' ∧ Kp W1 W')) →
    J [] W → CallsIn Fence.wide n P gf (#[.func (.yield l) #[] #[]] ++ lb) W fun e W' => (∃ v, e = .returned v) ∧ ((∃ xs, S xs ∧ J xs W') ∨ (∃ pre, Sp pre ∧ Jx pre W'))

/-- how a round may be left -/
def roundPostK (B : Nat) (Kp : World → World → Prop) (I : List α → World → Prop) (Ix : Code → List α → World → Prop) (xs : List α) (W : World) : Exit → Act → World → Prop
  | .normal, _, W' => KeepsFrom B W W' ∧ Kp W W' ∧ I xs W'
  | .ret, _, W' => KeepsFrom B W W' ∧ Kp W W' ∧ Ix .ret xs W'
  | .exit id, _, W' => KeepsFrom B W W' ∧ Kp W W' ∧ Ix (.exit id) xs W'
  | _, _, _ => False

/-- what the record of the loop and the block of the deferred calls hold between two rounds -/
def Books (w : World) (r : Loop) (W : World) : Prop := W.heap[w.heap.size + 1]? = some (.loop r) ∧ W.heap[w.heap.size]? = some (.deferred (some []))

theorem Books.abides {w W1 : World} {r : Loop} {A B : World} {row : Option Nat} (h : Books w r A) (hg : A.grownBy B row) (hr : ∀ k, row = some k → W1.heap.size ≤ k ∧ ∃ o : Obj, A.heap[k]? = some o ∧ o.isWalk = true) : Books w r B :=
  ⟨(grownBy_keeps hg (fun r e => (hr r e).2) h.1 rfl).trans h.1, (grownBy_keeps hg (fun r e => (hr r e).2) h.2 rfl).trans h.2⟩
theorem Books.keeps {w : World} {r : Loop} {A B : World} (h : Books w r A) (hk : KeepsFrom w.heap.size A B) : Books w r B := ⟨hk.same _ _ (by omega) h.1 rfl, hk.same _ _ (Nat.le_refl _) h.2 rfl⟩
theorem Books.turn {w : World} {r : Loop} {A : World} (h : Books w r A) (r' : Loop) : Books w r' (A.putObj (w.heap.size + 1) (.loop r')) :=
  ⟨World.putObj_heap_same (Array.getElem?_eq_some_iff.1 h.1).1, (World.putObj_heap_other (by omega)).trans h.2⟩

theorem range_given {g : Operand} {ps : Array Tmp} {assign body : Code} {Q : Exit → Act → World → Prop} {a : Act} {w : World}
    {gf : Nat} {lb : Array Value} (hg : a.eval g = .func (.func gf) #[] lb) (eg : ∀ args w, (callFunc gf args).run P w = .ok (.enter gf args) w)
    {encs : α → Array Value} {Kp : World → World → Prop} {S Sp : List α → Prop} {Px : List α → α → World → Prop} (hseq : Given (n - 1) P gf lb encs Kp S Sp Px w)
    (hKt : ∀ {A B C : World}, Kp A B → Kp B C → Kp A C) (hKb : ∀ (W : World) (o' : Obj), Kp W (W.putObj (w.heap.size + 1) o')) (hps : ∀ x, (encs x).size = ps.size)
    (I : List α → World → Prop) (Ix : Code → List α → World → Prop) (hI : OwnFrom w.heap.size I) (hIx : ∀ c, OwnFrom w.heap.size (Ix c)) (h0 : I [] w)
    (Ax : List α → α → Act → World → Prop) (hAx : ∀ pre x a', OwnFrom w.heap.size (fun (_ : Unit) W => Ax pre x a' W))
    (hassign : ∀ (l : Nat) (pre : List α) (x : α) (W : World) (K : Act → World → Prop), I pre W → Px pre x W → (∀ a' W', KeepsFrom w.heap.size W W' → Kp W W' → I pre W' → Ax pre x a' W' → K a' W') →
      assign.wpIn (Fence.wide.inRound l) (n - 1 - 1) P (Exit.then K (fun _ _ _ => False)) { tmps := (ps.zip (encs x)).foldl (fun t (p, v) => t.setIfInBounds p v) a.tmps, defers := [] } W)
    (hbody : ∀ (l : Nat) (pre : List α) (x : α) (a' : Act) (W : World), w.heap.size ≤ l → (∃ r, W.heap[l]? = some (.loop r)) → I pre W → Ax pre x a' W → body.wpIn (Fence.wide.inRound l) (n - 1 - 1) P (roundPostK w.heap.size Kp I Ix (pre ++ [x]) W) a' W)
    (hdone : ∀ (D : Nat) (xs : List α) (W : World), w.heap.size ≤ D → S xs → I xs W → W.heap[D]? = some (.deferred (some [])) → Q .normal { a with defers := { target := .collected D, args := #[] } :: a.defers } W)
    (hstop : ∀ (D : Nat) (c : Code) (pre : List α) (W : World), w.heap.size ≤ D → Sp pre → Ix c pre W → W.heap[D]? = some (.deferred (some [])) → c.wpIn Fence.wide n P Q { a with defers := { target := .collected D, args := #[] } :: a.defers } W) :
    (Code.rangeFunc g ps assign body).wpIn Fence.wide n P Q a w := by
  refine wpIn_rangeFunc fun fn hfn => ?_
  let rec0 : LoopState → Option Code → Loop := fun st pe => { state := st, pending := pe, fn := fn, tmps := a.tmps, params := ps, assign := assign, body := body, defers := w.heap.size }
  have hB1 : Books w (rec0 .ready none) ((w.alloc (.deferred (some []))).alloc (.loop (rec0 .ready none))) := by
    refine ⟨?_, (heap_alloc_lt _ _ _ (by simp)).trans (heap_alloc_new _ _)⟩
    exact heap_alloc_at _ _ _ (by simp)
  have hsz : ((w.alloc (.deferred (some []))).alloc (.loop (rec0 .ready none))).heap.size = w.heap.size + 2 := by simp
  have hbel : Below w.heap.size w ((w.alloc (.deferred (some []))).alloc (.loop (rec0 .ready none))) := ((Below.refl _ w).alloc (Nat.le_refl _) _).alloc (by simp) _
  have hent := run_enterLoop_outer (P := P) (w := w) fn a.tmps ps assign body
  have own : ∀ {A : World} {row : Option Nat}, (∀ r, row = some r → w.heap.size + 2 ≤ r ∧ ∃ o : Obj, A.heap[r]? = some o ∧ o.isWalk = true) → ∀ r, row = some r → w.heap.size ≤ r ∧ ∃ o : Obj, A.heap[r]? = some o ∧ o.isCells = false :=
    fun hr r e => by obtain ⟨hB, o, ho, hw⟩ := hr r e; exact ⟨by omega, o, ho, Obj.not_cells_of_walk hw⟩
  refine ⟨w.heap.size + 1, [{ target := .collected w.heap.size, args := #[] }], (w.alloc (.deferred (some []))).alloc (.loop (rec0 .ready none)), { target := .fn (.func gf) lb, args := #[.func (.yield (w.heap.size + 1)) #[] #[]] }, (w.alloc (.deferred (some []))).alloc (.loop (rec0 .ready none)), gf,
    #[.func (.yield (w.heap.size + 1)) #[] #[]] ++ lb, (w.alloc (.deferred (some []))).alloc (.loop (rec0 .ready none)), hent, ?_, fun _ _ => trivial, ?_, fun h => by simp [Fence.wide] at h, ?_⟩
  · simp only [resolve, hg]; simp [go_sem]
  · simp [invoke, go_sem, eg]
  refine (hseq (w.heap.size + 1) (fun pre W => I pre W ∧ Books w (rec0 .ready none) W) (fun pre W => ∃ c, Ix c pre W ∧ Books w (rec0 .done (some c)) W) _ hbel (by rw [hsz]; exact Nat.le_refl _) ?_ ?_ ?_ ⟨hI.alloc _ (hI.alloc _ h0), hB1⟩).mono ?_
  · intro s A B row hs hg' hr
    rw [hsz] at hr
    exact ⟨hI s A B row hs.1 hg' (own hr), hs.2.abides (W1 := (w.alloc (.deferred (some []))).alloc (.loop (rec0 .ready none))) hg' (by rw [hsz]; exact hr)⟩
  · rintro s A B row ⟨c, h1, h2⟩ hg' hr
    rw [hsz] at hr
    exact ⟨c, hIx c s A B row h1 hg' (own hr), h2.abides (W1 := (w.alloc (.deferred (some []))).alloc (.loop (rec0 .ready none))) hg' (by rw [hsz]; exact hr)⟩
  · rintro pre x W ⟨hi, hbk⟩ hx
    have hy := run_yield (P := P) (args := encs x) hbk.1 (hps x)
    refine ⟨fn, _, assign, body, hy, roundIn_of_wpIn hfn (hassign _ pre x W _ hi hx ?_)⟩
    intro a' Wa hk1 hp1 hi1 hax
    have hbk1 := hbk.keeps hk1
    have hl1 := heap_lt hbk1.1
    have hbk2 := hbk1.turn { rec0 .ready none with state := .busy }
    refine ⟨_, run_beginRound hbk1.1 rfl, wpIn_mono (hbody _ pre x a' _ (by omega) ⟨_, hbk2.1⟩ (hI.putObj _ hi1 (by omega) hbk1.1 rfl) ((hAx pre x a').putObj (s := ()) _ hax (by omega) hbk1.1 rfl)) ?_⟩
    have hp2 := hKb Wa (.loop { rec0 .ready none with state := .busy })
    intro e a3 W3 hpost
    have fin : ∀ (jump : Option Code), KeepsFrom w.heap.size (Wa.putObj (w.heap.size + 1) (.loop { rec0 .ready none with state := .busy })) W3 →
        (Instr.endRound (w.heap.size + 1) jump).run P W3 = .ok (.bool jump.isNone) (W3.putObj (w.heap.size + 1) (.loop (rec0 (if jump.isNone then .ready else .done) jump))) ∧ Books w { rec0 .ready none with state := .busy } W3 := fun jump hk3 => by
      have hb3 := hbk2.keeps hk3
      exact ⟨run_endRound (P := P) jump hb3.1, hb3⟩
    have stop : ∀ c, KeepsFrom w.heap.size (Wa.putObj (w.heap.size + 1) (.loop { rec0 .ready none with state := .busy })) W3 → Kp (Wa.putObj (w.heap.size + 1) (.loop { rec0 .ready none with state := .busy })) W3 → Ix c (pre ++ [x]) W3 →
        ∃ v w', (Instr.endRound (w.heap.size + 1) (some c)).run P W3 = .ok v w' ∧ ((Ending.returned v = .returned (.bool true) ∧ (I (pre ++ [x]) w' ∧ Books w (rec0 .ready none) w') ∧ Kp W w') ∨ (Ending.returned v = .returned (.bool false) ∧ (∃ c, Ix c (pre ++ [x]) w' ∧ Books w (rec0 .done (some c)) w') ∧ Kp W w')) := fun c hk3 hp3 hi3 => by
      obtain ⟨hr, hb3⟩ := fin (some c) hk3
      exact ⟨_, _, hr, .inr ⟨rfl, ⟨c, (hIx c).putObj _ hi3 (by omega) hb3.1 rfl, hb3.turn _⟩, hKt hp1 (hKt (hKt hp2 hp3) (hKb _ _))⟩⟩
    cases e with
    | normal =>
      obtain ⟨hk3, hp3, hi3⟩ := hpost
      obtain ⟨hr, hb3⟩ := fin none hk3
      exact ⟨_, _, hr, .inl ⟨rfl, ⟨hI.putObj _ hi3 (by omega) hb3.1 rfl, hb3.turn _⟩, hKt hp1 (hKt (hKt hp2 hp3) (hKb _ _))⟩⟩
    | ret => exact stop _ hpost.1 hpost.2.1 hpost.2.2
    | exit id => exact stop _ hpost.1 hpost.2.1 hpost.2.2
    | goto t => exact hpost.elim
    | panic ch => exact hpost.elim
    | outgrown => exact hpost.elim
  · rintro e W2 ⟨⟨v, rfl⟩, (⟨xs, hS, hi, hbk⟩ | ⟨pre, hSp, c, hi, hbk⟩)⟩
    · exact ⟨none, _, run_endLoop (P := P) hbk.1 (by simp [rec0]), hdone _ xs _ (Nat.le_refl _) hS (hI.putObj _ hi (by omega) hbk.1 rfl) ((World.putObj_heap_other (by omega)).trans hbk.2)⟩
    · exact ⟨some c, _, run_endLoop (P := P) hbk.1 (by simp [rec0]), hstop _ c pre _ (Nat.le_refl _) hSp ((hIx c).putObj _ hi (by omega) hbk.1 rfl) ((World.putObj_heap_other (by omega)).trans hbk.2)⟩
end
end Go.Proofs.YtmagkcioplcidaeDoor

/- Bit operations on small numbers. -/
set_option linter.unusedVariables false
set_option linter.unusedSimpArgs false
namespace Go.Proofs.YtmagkcioplcidaeDoor
open Go

/-- what is in a and not in b -/
def diff (a b : Nat) : Nat := a ^^^ (a &&& b)
theorem diff_bit (a b i : Nat) : (diff a b).testBit i = (a.testBit i && !b.testBit i) := by
  unfold diff
  rw [Nat.testBit_xor, Nat.testBit_and]
  cases a.testBit i <;> cases b.testBit i <;> rfl
theorem ofInt64 (x : Nat) (hx : x < 18446744073709551616) : (BitVec.ofInt 64 (x : Int)).toNat = x := by
  rw [BitVec.toNat_ofInt]; omega
theorem wrapU (n : Nat) (h : n < 18446744073709551616) : IntKind.u64.wrap (n : Int) = n := by
  simp [IntKind.wrap, IntKind.bits, IntKind.signed]; omega
theorem wrapI (n : Nat) (h : n < 9223372036854775808) : IntKind.i64.wrap (n : Int) = n := by
  simp [IntKind.wrap, IntKind.bits, IntKind.signed]; omega
theorem and_lt {a b n : Nat} (h : a < n) : a &&& b < n := Nat.lt_of_le_of_lt Nat.and_le_left h
theorem or_lt {a b k : Nat} (ha : a < 2 ^ k) (hb : b < 2 ^ k) : a ||| b < 2 ^ k := Nat.or_lt_two_pow ha hb
theorem diff_lt {a b k : Nat} (ha : a < 2 ^ k) : diff a b < 2 ^ k := Nat.xor_lt_two_pow ha (and_lt ha)
theorem not_diff (a b : Nat) (ha : a < 2 ^ 64) (hb : b < 2 ^ 64) : a &&& (2 ^ 64 - 1 - b) = diff a b := by
  refine Nat.eq_of_testBit_eq fun i => ?_
  rw [Nat.testBit_and, diff_bit, show 2 ^ 64 - 1 - b = 2 ^ 64 - (b + 1) by omega, Nat.testBit_two_pow_sub_succ hb]
  by_cases hi : i < 64
  · simp [hi]
  · have : a.testBit i = false := Nat.testBit_lt_two_pow (Nat.lt_of_lt_of_le ha (Nat.pow_le_pow_right (by omega) (by omega)))
    simp [this]

theorem u64_and (a b : Nat) (ha : a < 2 ^ 63) (hb : b < 2 ^ 63) : bits .and .u64 (a : Int) (b : Int) = ((a &&& b : Nat) : Int) := by
  show IntKind.u64.wrap ((BitVec.ofInt 64 (a : Int) &&& BitVec.ofInt 64 (b : Int)).toNat : Int) = _
  rw [BitVec.toNat_and, ofInt64 a (by omega), ofInt64 b (by omega)]
  exact wrapU _ (by have := and_lt (b := b) ha; omega)
theorem i64_and (a b : Nat) (ha : a < 2 ^ 63) (hb : b < 2 ^ 63) : bits .and .i64 (a : Int) (b : Int) = ((a &&& b : Nat) : Int) := by
  show IntKind.i64.wrap ((BitVec.ofInt 64 (a : Int) &&& BitVec.ofInt 64 (b : Int)).toNat : Int) = _
  rw [BitVec.toNat_and, ofInt64 a (by omega), ofInt64 b (by omega)]
  exact wrapI _ (by have := and_lt (b := b) ha; omega)
theorem u64_or (a b : Nat) (ha : a < 2 ^ 63) (hb : b < 2 ^ 63) : bits .or .u64 (a : Int) (b : Int) = ((a ||| b : Nat) : Int) := by
  show IntKind.u64.wrap ((BitVec.ofInt 64 (a : Int) ||| BitVec.ofInt 64 (b : Int)).toNat : Int) = _
  rw [BitVec.toNat_or, ofInt64 a (by omega), ofInt64 b (by omega)]
  exact wrapU _ (by have := or_lt ha hb; omega)
theorem i64_or (a b : Nat) (ha : a < 2 ^ 63) (hb : b < 2 ^ 63) : bits .or .i64 (a : Int) (b : Int) = ((a ||| b : Nat) : Int) := by
  show IntKind.i64.wrap ((BitVec.ofInt 64 (a : Int) ||| BitVec.ofInt 64 (b : Int)).toNat : Int) = _
  rw [BitVec.toNat_or, ofInt64 a (by omega), ofInt64 b (by omega)]
  exact wrapI _ (by have := or_lt ha hb; omega)
theorem u64_andNot (a b : Nat) (ha : a < 2 ^ 63) (hb : b < 2 ^ 63) : bits .andNot .u64 (a : Int) (b : Int) = ((diff a b : Nat) : Int) := by
  show IntKind.u64.wrap ((BitVec.ofInt 64 (a : Int) &&& ~~~BitVec.ofInt 64 (b : Int)).toNat : Int) = _
  rw [BitVec.toNat_and, BitVec.toNat_not, ofInt64 a (by omega), ofInt64 b (by omega), not_diff a b (by omega) (by omega)]
  exact wrapU _ (by have := diff_lt (b := b) ha; omega)
theorem i64_andNot (a b : Nat) (ha : a < 2 ^ 63) (hb : b < 2 ^ 63) : bits .andNot .i64 (a : Int) (b : Int) = ((diff a b : Nat) : Int) := by
  show IntKind.i64.wrap ((BitVec.ofInt 64 (a : Int) &&& ~~~BitVec.ofInt 64 (b : Int)).toNat : Int) = _
  rw [BitVec.toNat_and, BitVec.toNat_not, ofInt64 a (by omega), ofInt64 b (by omega), not_diff a b (by omega) (by omega)]
  exact wrapI _ (by have := diff_lt (b := b) ha; omega)
end Go.Proofs.YtmagkcioplcidaeDoor

/- Spaces of few points: plain numbers as sets of points. -/
set_option linter.unusedVariables false
set_option linter.unusedSimpArgs false
namespace Go.Proofs.YtmagkcioplcidaeDoor

/-- a lies in b -/
def subB (a b : Nat) : Bool := decide (diff a b = 0)
theorem sub_iff {a b : Nat} : subB a b = true ↔ ∀ i, a.testBit i = true → b.testBit i = true := by
  unfold subB
  rw [decide_eq_true_eq]
  constructor
  · intro h i hi
    have h2 := diff_bit a b i
    rw [h, Nat.zero_testBit, hi, Bool.true_and] at h2
    rcases hb : b.testBit i with _ | _
    · rw [hb] at h2; cases h2
    · rfl
  · intro h
    refine Nat.eq_of_testBit_eq fun i => ?_
    rw [diff_bit, Nat.zero_testBit]
    rcases ha : a.testBit i with _ | _
    · rfl
    · rw [h i ha]; rfl
theorem sub_refl (a : Nat) : subB a a = true := sub_iff.2 fun _ h => h
theorem sub_trans {a b c : Nat} (h1 : subB a b = true) (h2 : subB b c = true) : subB a c = true := sub_iff.2 fun i h => sub_iff.1 h2 i (sub_iff.1 h1 i h)
theorem bit_big {a n i : Nat} (ha : a < 2 ^ n) (hi : n ≤ i) : a.testBit i = false := Nat.testBit_lt_two_pow (Nat.lt_of_lt_of_le ha (Nat.pow_le_pow_right (by omega) hi))
theorem ext_bits {a b n : Nat} (ha : a < 2 ^ n) (hb : b < 2 ^ n) (h : ∀ i, i < n → a.testBit i = b.testBit i) : a = b := by
  refine Nat.eq_of_testBit_eq fun i => ?_
  by_cases hi : i < n
  · exact h i hi
  · rw [bit_big ha (by omega), bit_big hb (by omega)]
theorem sub_of {a b n : Nat} (ha : a < 2 ^ n) (h : ∀ i, i < n → a.testBit i = true → b.testBit i = true) : subB a b = true := sub_iff.2 fun i hi => by
  by_cases hn : i < n
  · exact h i hn hi
  · rw [bit_big ha (by omega)] at hi; cases hi

/-- the set of the points below n with a property -/
def gather (P : Nat → Bool) : Nat → Nat
  | 0 => 0
  | n + 1 => gather P n ||| (if P n = true then 2 ^ n else 0)
theorem gather_bit (P : Nat → Bool) : ∀ n i, (gather P n).testBit i = (decide (i < n) && P i)
  | 0, i => by simp [gather]
  | n + 1, i => by
    unfold gather
    rw [Nat.testBit_or, gather_bit P n i]
    by_cases hp : P n = true
    · rw [if_pos hp, Nat.testBit_two_pow]
      by_cases e : n = i
      · subst e; simp [hp]
      · simp only [e, decide_false, Bool.or_false]
        by_cases h : i < n
        · simp [h, show i < n + 1 by omega]
        · simp [h, show ¬ i < n + 1 by omega]
    · rw [if_neg hp, Nat.zero_testBit, Bool.or_false]
      by_cases e : i = n
      · subst e; simp [hp]
      · by_cases h : i < n
        · simp [h, show i < n + 1 by omega]
        · simp [h, show ¬ i < n + 1 by omega]
theorem gather_lt (P : Nat → Bool) (n : Nat) : gather P n < 2 ^ n := by
  refine Nat.lt_pow_two_of_testBit _ fun i hi => ?_
  rw [gather_bit]; simp [show ¬ i < n by omega]
theorem gather_same {P Q : Nat → Bool} {n : Nat} (h : ∀ i, i < n → P i = Q i) : gather P n = gather Q n :=
  ext_bits (gather_lt P n) (gather_lt Q n) fun i hi => by rw [gather_bit, gather_bit, h i hi]

/-- cells -/
def cell (cs : List Nat) (p : Nat) : Nat := cs.getD p 0
def Codes (cs : List Nat) : Prop := 1 ≤ cs.length ∧ cs.length ≤ 6 ∧ ∀ p, cell cs p < 2 ^ cs.length
def spaceB (cs : List Nat) : Bool := (List.range cs.length).all fun p => (cell cs p).testBit p && (List.range cs.length).all fun q => !(cell cs p).testBit q || subB (cell cs q) (cell cs p)
theorem space_iff {cs : List Nat} : spaceB cs = true ↔ ∀ p, p < cs.length → (cell cs p).testBit p = true ∧ ∀ q, q < cs.length → (cell cs p).testBit q = true → subB (cell cs q) (cell cs p) = true := by
  unfold spaceB
  simp only [List.all_eq_true, List.mem_range, Bool.and_eq_true, Bool.or_eq_true, Bool.not_eq_true']
  constructor
  · intro h p hp
    refine ⟨(h p hp).1, fun q hq hb => ?_⟩
    rcases (h p hp).2 q hq with h2 | h2
    · rw [h2] at hb; cases hb
    · exact h2
  · intro h p hp
    refine ⟨(h p hp).1, fun q hq => ?_⟩
    rcases hb : (cell cs p).testBit q with _ | _
    · exact .inl rfl
    · exact .inr ((h p hp).2 q hq hb)

def openB (cs : List Nat) (s : Nat) : Bool := (List.range cs.length).all fun p => !s.testBit p || subB (cell cs p) s
theorem open_iff {cs : List Nat} {s : Nat} : openB cs s = true ↔ ∀ p, p < cs.length → s.testBit p = true → subB (cell cs p) s = true := by
  unfold openB
  simp only [List.all_eq_true, List.mem_range, Bool.or_eq_true, Bool.not_eq_true']
  constructor
  · intro h p hp hb
    rcases h p hp with h2 | h2
    · rw [h2] at hb; cases hb
    · exact h2
  · intro h p hp
    rcases hb : s.testBit p with _ | _
    · exact .inl rfl
    · exact .inr (h p hp hb)
/-- the cell of a point is open -/
theorem cell_open {cs : List Nat} (hs : spaceB cs = true) {p : Nat} (hp : p < cs.length) : openB cs (cell cs p) = true := open_iff.2 fun q hq hb => (space_iff.1 hs p hp).2 q hq hb
/-- the greatest open set in a set -/
def insideN (cs : List Nat) (s : Nat) : Nat := gather (fun p => s.testBit p && subB (cell cs p) s) cs.length
theorem inside_bit {cs : List Nat} {s i : Nat} (hi : i < cs.length) : (insideN cs s).testBit i = (s.testBit i && subB (cell cs i) s) := by unfold insideN; rw [gather_bit]; simp [hi]
theorem inside_lt (cs : List Nat) (s : Nat) : insideN cs s < 2 ^ cs.length := gather_lt _ _
theorem inside_sub (cs : List Nat) (s : Nat) : subB (insideN cs s) s = true := sub_of (inside_lt cs s) fun i hi h => by
  rw [inside_bit hi, Bool.and_eq_true] at h; exact h.1
theorem inside_open {cs : List Nat} (hs : spaceB cs = true) (hc : Codes cs) (s : Nat) : openB cs (insideN cs s) = true := open_iff.2 fun p hp h => by
  rw [inside_bit hp, Bool.and_eq_true] at h
  refine sub_of (hc.2.2 p) fun q hq hb => ?_
  rw [inside_bit hq, Bool.and_eq_true]
  exact ⟨sub_iff.1 h.2 q hb, sub_trans ((space_iff.1 hs p hp).2 q hq hb) h.2⟩
theorem inside_max {cs : List Nat} {a s : Nat} (ha : a < 2 ^ cs.length) (ho : openB cs a = true) (h : subB a s = true) : subB a (insideN cs s) = true := sub_of ha fun i hi hb => by
  rw [inside_bit hi, Bool.and_eq_true]
  exact ⟨sub_iff.1 h i hb, sub_trans (open_iff.1 ho i hi hb) h⟩
theorem inside_fix {cs : List Nat} {s : Nat} (hl : s < 2 ^ cs.length) : insideN cs s = s ↔ openB cs s = true := by
  constructor
  · intro h
    refine open_iff.2 fun p hp hb => ?_
    rw [← h, inside_bit hp, Bool.and_eq_true] at hb
    exact hb.2
  · intro h
    refine ext_bits (inside_lt cs s) hl fun i hi => ?_
    rw [inside_bit hi]
    rcases hb : s.testBit i with _ | _
    · rfl
    · rw [open_iff.1 h i hi hb]; rfl
/-- the join of the open sets in a set -/
def opensN (cs : List Nat) : List Nat := (List.range (2 ^ cs.length)).filter fun s => openB cs s
def joinN (s : Nat) (l : List Nat) : Nat := l.foldl (fun b a => if subB a s = true then b ||| a else b) 0
theorem join_bit (s : Nat) (i : Nat) : ∀ (l : List Nat) (b : Nat), (l.foldl (fun b a => if subB a s = true then b ||| a else b) b).testBit i = true ↔ b.testBit i = true ∨ ∃ a ∈ l, subB a s = true ∧ a.testBit i = true
  | [], b => by simp
  | a :: l, b => by
    rw [List.foldl_cons, join_bit s i l]
    by_cases h : subB a s = true
    · rw [if_pos h, Nat.testBit_or, Bool.or_eq_true]
      constructor
      · rintro ((h1 | h1) | ⟨c, h1, h2⟩)
        · exact .inl h1
        · exact .inr ⟨a, by simp, h, h1⟩
        · exact .inr ⟨c, by simp [h1], h2⟩
      · rintro (h1 | ⟨c, h1, h2, h3⟩)
        · exact .inl (.inl h1)
        · rcases List.mem_cons.1 h1 with rfl | h1
          · exact .inl (.inr h3)
          · exact .inr ⟨c, h1, h2, h3⟩
    · rw [if_neg h]
      constructor
      · rintro (h1 | ⟨c, h1, h2⟩)
        · exact .inl h1
        · exact .inr ⟨c, by simp [h1], h2⟩
      · rintro (h1 | ⟨c, h1, h2, h3⟩)
        · exact .inl h1
        · rcases List.mem_cons.1 h1 with rfl | h1
          · exact absurd h2 h
          · exact .inr ⟨c, h1, h2, h3⟩
theorem refInside_eq {cs : List Nat} (hs : spaceB cs = true) (hc : Codes cs) (s : Nat) : joinN s (opensN cs) = insideN cs s := by
  refine Nat.eq_of_testBit_eq fun i => ?_
  rw [Bool.eq_iff_iff]
  unfold joinN
  rw [join_bit]
  constructor
  · rintro (h | ⟨a, h1, h2, h3⟩)
    · rw [Nat.zero_testBit] at h; cases h
    · unfold opensN at h1
      rw [List.mem_filter, List.mem_range] at h1
      exact sub_iff.1 (inside_max h1.1 h1.2 h2) i h3
  · intro h
    refine .inr ⟨insideN cs s, ?_, inside_sub cs s, h⟩
    unfold opensN
    rw [List.mem_filter, List.mem_range]
    exact ⟨inside_lt cs s, inside_open hs hc s⟩
end Go.Proofs.YtmagkcioplcidaeDoor

/- Closures: plain numbers. -/
set_option linter.unusedVariables false
set_option linter.unusedSimpArgs false
namespace Go.Proofs.YtmagkcioplcidaeDoor

def allN (n : Nat) : Nat := 2 ^ n - 1
theorem all_bit (n i : Nat) : (allN n).testBit i = decide (i < n) := Nat.testBit_two_pow_sub_one n i
theorem all_lt (n : Nat) : allN n < 2 ^ n := by unfold allN; have := Nat.two_pow_pos n; omega
/-- the complement -/
def otherN (n s : Nat) : Nat := diff (allN n) s
theorem other_bit (n s i : Nat) : (otherN n s).testBit i = (decide (i < n) && !s.testBit i) := by unfold otherN; rw [diff_bit, all_bit]
theorem other_lt (n s : Nat) : otherN n s < 2 ^ n := diff_lt (all_lt n)
theorem other_sub {n s : Nat} (hs : s < 2 ^ n) : otherN n s = 2 ^ n - 1 - s := by
  refine Nat.eq_of_testBit_eq fun i => ?_
  rw [other_bit, show 2 ^ n - 1 - s = 2 ^ n - (s + 1) by omega, Nat.testBit_two_pow_sub_succ hs]
theorem other_other {n s : Nat} (hs : s < 2 ^ n) : otherN n (otherN n s) = s := ext_bits (other_lt _ _) hs fun i hi => by
  rw [other_bit, other_bit]; simp [hi]
/-- the smallest closed set around a set -/
def closureN (cs : List Nat) (s : Nat) : Nat := otherN cs.length (insideN cs (otherN cs.length s))
theorem closure_lt (cs : List Nat) (s : Nat) : closureN cs s < 2 ^ cs.length := other_lt _ _
/-- a point lies in the closure exactly if its cell meets the set -/
theorem closure_bit {cs : List Nat} (hs : spaceB cs = true) (hc : Codes cs) {s i : Nat} (hi : i < cs.length) : (closureN cs s).testBit i = true ↔ ∃ q, q < cs.length ∧ (cell cs i).testBit q = true ∧ s.testBit q = true := by
  unfold closureN
  rw [other_bit, inside_bit hi, other_bit]
  simp only [hi, decide_true, Bool.true_and, Bool.not_eq_true', Bool.and_eq_false_iff]
  constructor
  · rintro (h | h)
    · exact ⟨i, hi, (space_iff.1 hs i hi).1, by simpa using h⟩
    · have h2 : ¬ subB (cell cs i) (otherN cs.length s) = true := by rw [h]; simp
      rw [sub_iff] at h2
      apply Classical.byContradiction
      intro hne
      apply h2
      intro q hq
      have hqn : q < cs.length := by
        apply Classical.byContradiction
        intro hn
        rw [bit_big (hc.2.2 i) (by omega)] at hq; cases hq
      rw [other_bit]
      rcases hb : s.testBit q with _ | _
      · simp [hqn]
      · exact absurd ⟨q, hqn, hq, hb⟩ hne
  · rintro ⟨q, hq, h1, h2⟩
    right
    rcases h : subB (cell cs i) (otherN cs.length s) with _ | _
    · rfl
    · have := sub_iff.1 h q h1
      rw [other_bit, h2] at this
      simp at this
theorem closure_ge {cs : List Nat} (hs : spaceB cs = true) (hc : Codes cs) {s : Nat} (hl : s < 2 ^ cs.length) : subB s (closureN cs s) = true := sub_of hl fun i hi h =>
  (closure_bit hs hc hi).2 ⟨i, hi, (space_iff.1 hs i hi).1, h⟩
theorem closure_mono {cs : List Nat} (hs : spaceB cs = true) (hc : Codes cs) {s t : Nat} (h : subB s t = true) : subB (closureN cs s) (closureN cs t) = true := sub_of (closure_lt _ _) fun i hi hb => by
  obtain ⟨q, h1, h2, h3⟩ := (closure_bit hs hc hi).1 hb
  exact (closure_bit hs hc hi).2 ⟨q, h1, h2, sub_iff.1 h q h3⟩
theorem closure_twice {cs : List Nat} (hs : spaceB cs = true) (hc : Codes cs) (s : Nat) : closureN cs (closureN cs s) = closureN cs s := ext_bits (closure_lt _ _) (closure_lt _ _) fun i hi => by
  rw [Bool.eq_iff_iff, closure_bit hs hc hi]
  constructor
  · rintro ⟨q, h1, h2, h3⟩
    obtain ⟨r, h4, h5, h6⟩ := (closure_bit hs hc h1).1 h3
    exact (closure_bit hs hc hi).2 ⟨r, h4, sub_iff.1 ((space_iff.1 hs i hi).2 q h1 h2) r h5, h6⟩
  · intro h
    exact ⟨i, hi, (space_iff.1 hs i hi).1, h⟩
theorem closure_or {cs : List Nat} (hs : spaceB cs = true) (hc : Codes cs) (s t : Nat) : closureN cs (s ||| t) = closureN cs s ||| closureN cs t := ext_bits (closure_lt _ _) (or_lt (closure_lt _ _) (closure_lt _ _)) fun i hi => by
  rw [Bool.eq_iff_iff, Nat.testBit_or, Bool.or_eq_true, closure_bit hs hc hi, closure_bit hs hc hi, closure_bit hs hc hi]
  constructor
  · rintro ⟨q, h1, h2, h3⟩
    rw [Nat.testBit_or, Bool.or_eq_true] at h3
    rcases h3 with h3 | h3
    · exact .inl ⟨q, h1, h2, h3⟩
    · exact .inr ⟨q, h1, h2, h3⟩
  · rintro (⟨q, h1, h2, h3⟩ | ⟨q, h1, h2, h3⟩)
    · exact ⟨q, h1, h2, by rw [Nat.testBit_or, h3]; rfl⟩
    · exact ⟨q, h1, h2, by rw [Nat.testBit_or, h3]; simp⟩
theorem closure_zero {cs : List Nat} (hs : spaceB cs = true) (hc : Codes cs) : closureN cs 0 = 0 := ext_bits (closure_lt _ _) (Nat.two_pow_pos _) fun i hi => by
  rw [Nat.zero_testBit]
  rcases h : (closureN cs 0).testBit i with _ | _
  · rfl
  · obtain ⟨q, _, _, h3⟩ := (closure_bit hs hc hi).1 h
    rw [Nat.zero_testBit] at h3; cases h3
theorem sub_and {a b : Nat} (h : subB a b = true) : a &&& b = a := Nat.eq_of_testBit_eq fun i => by
  rw [Nat.testBit_and]
  rcases ha : a.testBit i with _ | _
  · rfl
  · rw [sub_iff.1 h i ha]; rfl
/-- the reference's: what all closed sets around it have in common -/
def meetAll (n s : Nat) (l : List Nat) (b : Nat) : Nat := l.foldl (fun b a => if subB s (otherN n a) = true then b &&& otherN n a else b) b
theorem meet_bit (n s i : Nat) : ∀ (l : List Nat) (b : Nat), (meetAll n s l b).testBit i = true ↔ b.testBit i = true ∧ ∀ a ∈ l, subB s (otherN n a) = true → (otherN n a).testBit i = true
  | [], b => by simp [meetAll]
  | a :: l, b => by
    unfold meetAll
    rw [List.foldl_cons]
    have ih := meet_bit n s i l (if subB s (otherN n a) = true then b &&& otherN n a else b)
    unfold meetAll at ih
    rw [ih]
    by_cases h : subB s (otherN n a) = true
    · rw [if_pos h, Nat.testBit_and, Bool.and_eq_true]
      constructor
      · rintro ⟨⟨h1, h2⟩, h3⟩
        refine ⟨h1, fun c hc hcs => ?_⟩
        rcases List.mem_cons.1 hc with rfl | hc
        · exact h2
        · exact h3 c hc hcs
      · rintro ⟨h1, h2⟩
        exact ⟨⟨h1, h2 a (by simp) h⟩, fun c hc => h2 c (by simp [hc])⟩
    · rw [if_neg h]
      constructor
      · rintro ⟨h1, h2⟩
        refine ⟨h1, fun c hc hcs => ?_⟩
        rcases List.mem_cons.1 hc with rfl | hc
        · exact absurd hcs h
        · exact h2 c hc hcs
      · rintro ⟨h1, h2⟩
        exact ⟨h1, fun c hc => h2 c (by simp [hc])⟩
theorem refClosure_eq {cs : List Nat} (hs : spaceB cs = true) (hc : Codes cs) {s : Nat} (hl : s < 2 ^ cs.length) : meetAll cs.length s (opensN cs) (allN cs.length) = closureN cs s := by
  refine Nat.eq_of_testBit_eq fun i => ?_
  rw [Bool.eq_iff_iff, meet_bit, all_bit, decide_eq_true_eq]
  constructor
  · rintro ⟨hi, h⟩
    have ho : insideN cs (otherN cs.length s) ∈ opensN cs := by
      unfold opensN
      rw [List.mem_filter, List.mem_range]
      exact ⟨inside_lt _ _, inside_open hs hc _⟩
    exact h _ ho (closure_ge hs hc hl)
  · intro h
    have hi : i < cs.length := by
      apply Classical.byContradiction
      intro hn
      rw [bit_big (closure_lt cs s) (by omega)] at h; cases h
    refine ⟨hi, fun a ha hsa => ?_⟩
    unfold opensN at ha
    rw [List.mem_filter, List.mem_range] at ha
    obtain ⟨q, h1, h2, h3⟩ := (closure_bit hs hc hi).1 h
    have h4 := sub_iff.1 hsa q h3
    rw [other_bit] at h4 ⊢
    simp only [h1, hi, decide_true, Bool.true_and, Bool.not_eq_true'] at h4 ⊢
    rcases hb : a.testBit i with _ | _
    · rfl
    · rw [sub_iff.1 (open_iff.1 ha.2 i hi hb) q h2] at h4; cases h4
end Go.Proofs.YtmagkcioplcidaeDoor

/- The turned space: plain numbers. -/
set_option linter.unusedVariables false
set_option linter.unusedSimpArgs false
namespace Go.Proofs.YtmagkcioplcidaeDoor

def turnedN (cs : List Nat) : List Nat := (List.range cs.length).map fun p => gather (fun q => (cell cs q).testBit p) cs.length
theorem turned_len (cs : List Nat) : (turnedN cs).length = cs.length := by simp [turnedN]
theorem turned_cell {cs : List Nat} {p : Nat} (hp : p < cs.length) : cell (turnedN cs) p = gather (fun q => (cell cs q).testBit p) cs.length := by
  unfold cell turnedN
  rw [List.getD_eq_getElem?_getD, List.getElem?_map, List.getElem?_range hp]; rfl
theorem turned_bit {cs : List Nat} {p q : Nat} (hp : p < cs.length) (hq : q < cs.length) : (cell (turnedN cs) p).testBit q = (cell cs q).testBit p := by
  rw [turned_cell hp, gather_bit]; simp [hq]
theorem cell_far {cs : List Nat} {p : Nat} (hp : cs.length ≤ p) : cell cs p = 0 := by
  unfold cell; rw [List.getD_eq_getElem?_getD, List.getElem?_eq_none hp]; rfl
theorem turned_codes {cs : List Nat} (hc : Codes cs) : Codes (turnedN cs) := by
  refine ⟨by rw [turned_len]; exact hc.1, by rw [turned_len]; exact hc.2.1, fun p => ?_⟩
  rw [turned_len]
  by_cases hp : p < cs.length
  · rw [turned_cell hp]; exact gather_lt _ _
  · rw [cell_far (by rw [turned_len]; omega)]; exact Nat.two_pow_pos _
theorem turned_space {cs : List Nat} (hs : spaceB cs = true) (hc : Codes cs) : spaceB (turnedN cs) = true := by
  refine space_iff.2 fun p hp => ?_
  rw [turned_len] at hp ⊢
  refine ⟨by rw [turned_bit hp hp]; exact (space_iff.1 hs p hp).1, fun q hq hb => ?_⟩
  rw [turned_bit hp hq] at hb
  refine sub_of (n := cs.length) (by rw [turned_cell hq]; exact gather_lt _ _) fun r hr h => ?_
  rw [turned_bit hq hr] at h
  rw [turned_bit hp hr]
  exact sub_iff.1 ((space_iff.1 hs r hr).2 q hq h) p hb
theorem list_ext_cell {a b : List Nat} (hl : a.length = b.length) (h : ∀ p, p < a.length → cell a p = cell b p) : a = b := by
  refine List.ext_getElem hl fun i h1 h2 => ?_
  have := h i h1
  unfold cell at this
  rw [List.getD_eq_getElem?_getD, List.getD_eq_getElem?_getD, List.getElem?_eq_getElem h1, List.getElem?_eq_getElem h2] at this
  exact this
theorem turned_twice {cs : List Nat} (hc : Codes cs) : turnedN (turnedN cs) = cs := by
  refine list_ext_cell (by rw [turned_len, turned_len]) fun p hp => ?_
  rw [turned_len, turned_len] at hp
  refine ext_bits (n := cs.length) ?_ (hc.2.2 p) fun i hi => ?_
  · have := (turned_codes (turned_codes hc)).2.2 p
    rwa [turned_len, turned_len] at this
  · rw [turned_bit (by rw [turned_len]; exact hp) (by rw [turned_len]; exact hi), turned_bit hi hp]
/-- the join of the cells of a set's points -/
def joinCells (cs : List Nat) (s : Nat) (n : Nat) : Nat := (List.range n).foldl (fun b p => if s.testBit p = true then b ||| cell cs p else b) 0
theorem joinCells_bit (cs : List Nat) (s i : Nat) : ∀ n, (joinCells cs s n).testBit i = true ↔ ∃ p, p < n ∧ s.testBit p = true ∧ (cell cs p).testBit i = true
  | 0 => by simp [joinCells]
  | n + 1 => by
    have ih := joinCells_bit cs s i n
    unfold joinCells at ih ⊢
    rw [List.range_succ, List.foldl_append, List.foldl_cons, List.foldl_nil]
    by_cases h : s.testBit n = true
    · rw [if_pos h, Nat.testBit_or, Bool.or_eq_true, ih]
      constructor
      · rintro (⟨p, h1, h2⟩ | h1)
        · exact ⟨p, by omega, h2⟩
        · exact ⟨n, by omega, h, h1⟩
      · rintro ⟨p, h1, h2, h3⟩
        by_cases e : p = n
        · subst e; exact .inr h3
        · exact .inl ⟨p, by omega, h2, h3⟩
    · rw [if_neg h, ih]
      constructor
      · rintro ⟨p, h1, h2⟩; exact ⟨p, by omega, h2⟩
      · rintro ⟨p, h1, h2, h3⟩
        by_cases e : p = n
        · subst e; exact absurd h2 h
        · exact ⟨p, by omega, h2, h3⟩
/-- closures are the joins of the turned space's cells -/
theorem closure_join {cs : List Nat} (hs : spaceB cs = true) (hc : Codes cs) (s : Nat) : closureN cs s = joinCells (turnedN cs) s cs.length := by
  refine Nat.eq_of_testBit_eq fun i => ?_
  rw [Bool.eq_iff_iff, joinCells_bit]
  by_cases hi : i < cs.length
  · rw [closure_bit hs hc hi]
    constructor
    · rintro ⟨q, h1, h2, h3⟩; exact ⟨q, h1, h3, by rw [turned_bit h1 hi]; exact h2⟩
    · rintro ⟨q, h1, h2, h3⟩; exact ⟨q, h1, by rw [turned_bit h1 hi] at h3; exact h3, h2⟩
  · rw [bit_big (closure_lt cs s) (by omega)]
    constructor
    · intro h; cases h
    · rintro ⟨q, h1, h2, h3⟩
      rw [turned_cell h1, gather_bit] at h3
      simp [hi] at h3
end Go.Proofs.YtmagkcioplcidaeDoor

/- The points of a set, in ascending order; sets of at most six points, one by one: plain numbers. -/
set_option linter.unusedVariables false
set_option linter.unusedSimpArgs false
namespace Go.Proofs.YtmagkcioplcidaeDoor

def bitsOf (s : Nat) : List Nat := (List.range 6).filter fun i => s.testBit i
theorem bitsOf_mem {s i : Nat} (hs : s < 64) : i ∈ bitsOf s ↔ s.testBit i = true := by
  unfold bitsOf
  rw [List.mem_filter, List.mem_range]
  constructor
  · exact fun h => h.2
  · intro h
    refine ⟨?_, h⟩
    apply Classical.byContradiction
    intro hn
    rw [bit_big (n := 6) hs (by omega)] at h; cases h
theorem bitsOf_lt {s i : Nat} (h : i ∈ bitsOf s) : i < 6 := by
  unfold bitsOf at h
  rw [List.mem_filter, List.mem_range] at h
  exact h.1
theorem bitsOf_nodup (s : Nat) : (bitsOf s).Nodup := List.nodup_range.sublist List.filter_sublist
theorem bitsOf_step' : (List.range 64).all (fun c => c == 0 || (bitsOf c == Lib.ctz 64 c :: bitsOf (c &&& (c - 1)) && decide ((c &&& (c - 1)) < c) && decide (Lib.ctz 64 c < 6) && c.testBit (Lib.ctz 64 c))) = true := by decide +kernel
theorem bitsOf_step {c : Nat} (hc : c < 64) (h0 : c ≠ 0) : bitsOf c = Lib.ctz 64 c :: bitsOf (c &&& (c - 1)) ∧ (c &&& (c - 1)) < c ∧ Lib.ctz 64 c < 6 := by
  have h := List.all_eq_true.1 bitsOf_step' c (List.mem_range.2 hc)
  simp only [Bool.or_eq_true, Bool.and_eq_true, beq_iff_eq, decide_eq_true_eq] at h
  rcases h with h | h
  · exact absurd h h0
  · exact ⟨h.1.1.1, h.1.1.2, h.1.2⟩
theorem bitsOf_zero : bitsOf 0 = [] := rfl

theorem pair64 {P : Nat → Nat → Bool} {m : Nat} (h : (List.range 64).all (fun a => (List.range m).all fun b => P a b) = true) {a b : Nat} (ha : a < 64) (hb : b < m) : P a b = true :=
  List.all_eq_true.1 (List.all_eq_true.1 h a (List.mem_range.2 ha)) b (List.mem_range.2 hb)
theorem diff_le (a b : Nat) : diff a b ≤ a := by
  have h : diff a b = a &&& diff (2 ^ a - 1) b := Nat.eq_of_testBit_eq fun i => by
    rw [Nat.testBit_and, diff_bit, diff_bit, Nat.testBit_two_pow_sub_one]
    by_cases hi : i < a
    · simp [hi]
    · rw [bit_big (n := a) Nat.lt_two_pow_self (by omega)]; simp
  rw [h]; exact Nat.and_le_left
theorem diff_lt_self {s p : Nat} (h : s.testBit p = true) : diff s (2 ^ p) < s := by
  have h1 := diff_le s (2 ^ p)
  have h2 : diff s (2 ^ p) ≠ s := fun e => by
    have h3 := diff_bit s (2 ^ p) p
    rw [e, h, Nat.testBit_two_pow_self] at h3
    cases h3
  omega
theorem sub_pow' : (List.range 64).all (fun a => (List.range 6).all fun b => !a.testBit b || decide (a - 2 ^ b = diff a (2 ^ b) ∧ 2 ^ b ≤ a)) = true := by decide +kernel
theorem sub_pow {a b : Nat} (ha : a < 64) (hb : b < 6) (h : a.testBit b = true) : a - 2 ^ b = diff a (2 ^ b) ∧ 2 ^ b ≤ a := by
  have h2 := pair64 sub_pow' ha hb
  rw [h] at h2
  simpa using h2
theorem add_pow' : (List.range 64).all (fun a => (List.range 6).all fun b => a.testBit b || decide (a + 2 ^ b = (a ||| 2 ^ b))) = true := by decide +kernel
theorem add_pow {a b : Nat} (ha : a < 64) (hb : b < 6) (h : a.testBit b = false) : a + 2 ^ b = (a ||| 2 ^ b) := by
  have h2 := pair64 add_pow' ha hb
  rw [h] at h2
  simpa using h2
theorem sub_set' : (List.range 64).all (fun a => (List.range 64).all fun b => !subB b a || decide (a - b = diff a b ∧ b ≤ a)) = true := by decide +kernel
theorem sub_set {a b : Nat} (ha : a < 64) (hb : b < 64) (h : subB b a = true) : a - b = diff a b ∧ b ≤ a := by
  have h2 := pair64 sub_set' ha hb
  rw [h] at h2
  simpa using h2
theorem pow_lt64 {p : Nat} (hp : p < 6) : 2 ^ p < 64 := by
  have h : p = 0 ∨ p = 1 ∨ p = 2 ∨ p = 3 ∨ p = 4 ∨ p = 5 := by omega
  rcases h with rfl | rfl | rfl | rfl | rfl | rfl <;> decide
theorem set_lt {n s p : Nat} (hs : s < 2 ^ n) (h : s.testBit p = true) : p < n := by
  apply Classical.byContradiction
  intro hn
  rw [bit_big hs (by omega)] at h; cases h
theorem without_bit (S p r : Nat) : (diff S (2 ^ p)).testBit r = true ↔ S.testBit r = true ∧ r ≠ p := by
  rw [diff_bit, Nat.testBit_two_pow]
  by_cases e : p = r
  · subst e; simp
  · simp [e]; exact fun _ h => e h.symm
end Go.Proofs.YtmagkcioplcidaeDoor

/- A range statement over the points of a set: the iterator's contract and the law of the statement. -/
set_option linter.unusedVariables false
set_option linter.unusedSimpArgs false
namespace Go.Proofs.YtmagkcioplcidaeDoor
open Go.RowKit

/-- the library's table lies as its initialiser lays it -/
def Tab (w : World) : Prop := TabAt 1 Lib.deBruijn64tab w
theorem Tab.lt {w : World} (h : Tab w) : 1 < w.heap.size := World.block_lt_of_cell? w _ (h 0 (by decide))
theorem Tab.below {w w' : World} (h : Tab w) (hb : Below w.heap.size w w') : Tab w' := fun j hj => (hb.cell (p := ⟨1, j, none⟩) h.lt).trans (h j hj)
theorem Tab.block {w w' : World} (h : Tab w) (hb : w'.heap[1]? = w.heap[1]?) : Tab w' := fun j hj => (World.cell?_of_block hb).trans (h j hj)

/-- a block of cells may be written -/
def Bears {β : Type} (Bs : Nat) (J : β → World → Prop) : Prop := ∀ s W v, J s W → J s (W.setCell ⟨Bs, 0, none⟩ v)
def SameAt (Bs : Nat) (A B : World) : Prop := B.heap[Bs]? = A.heap[Bs]?
theorem SameAt.refl (Bs : Nat) (A : World) : SameAt Bs A A := rfl
theorem SameAt.trans {Bs : Nat} {A B C : World} (h : SameAt Bs A B) (k : SameAt Bs B C) : SameAt Bs A C := Eq.trans k h
theorem SameAt.of_below {Bs n : Nat} {A B : World} (h : Below n A B) (hB : Bs < n) : SameAt Bs A B := h.block Bs hB
theorem SameAt.setCell {Bs k : Nat} {A B : World} (h : SameAt Bs A B) (hne : Bs ≠ k) (u : Value) : SameAt Bs A (B.setCell ⟨k, 0, none⟩ u) := (heap_setCell_other _ _ _ _ hne).trans h

def setCells (s : Nat) : Array Value := #[.int .u64 s]
/-- the contract of the iterator: at each call of yield the points so far, the point, and its block unwritten -/
def PtsGiven (n : Nat) (P : Program) (gf : Nat) (Bs s : Nat) (ts : TypeId) (w : World) : Prop :=
  ∀ (l : Nat) (J Jx : List Nat → World → Prop) (W : World), w.heap.size ≤ W.heap.size → W.heap[Bs]? = some (.cells #[.int .u64 s] ts) → AbidesFrom W.heap.size J → AbidesFrom W.heap.size Jx → Bears Bs J → (∀ pre W1, J pre W1 → Tab W1) →
    (∀ (pre : List Nat) (x : Nat) (W1 : World), J pre W1 → pre ++ [x] <+: bitsOf s → YieldAt Fence.wide (n - 1) P l #[.int .i64 x] W1 fun e W' => (e = .returned (.bool true) ∧ J (pre ++ [x]) W' ∧ SameAt Bs W1 W') ∨ (e = .returned (.bool false) ∧ Jx (pre ++ [x]) W' ∧ SameAt Bs W1 W')) →
    J [] W → CallsIn Fence.wide n P gf #[.func (.yield l) #[] #[], .pointer (some ⟨Bs, 0, none⟩)] W fun e W' => (∃ v, e = .returned v) ∧ (J (bitsOf s) W' ∨ ∃ pre : List Nat, pre <+: bitsOf s ∧ Jx pre W')

theorem range_points {P : Program} {n : Nat} {g : Operand} {ps : Array Tmp} {assign body : Code} {Q : Exit → Act → World → Prop} {a : Act} {w : World}
    {gf Bs s : Nat} {ts : TypeId} (hg : a.eval g = .func (.func gf) #[] #[.pointer (some ⟨Bs, 0, none⟩)]) (eg : ∀ args w, (callFunc gf args).run P w = .ok (.enter gf args) w)
    (hseq : PtsGiven (n - 1) P gf Bs s ts w) (hB : w.heap[Bs]? = some (.cells #[.int .u64 s] ts)) (hps : ps.size = 1)
    (I : List Nat → World → Prop) (Ix : Code → List Nat → World → Prop) (hI : OwnFrom w.heap.size I) (hIx : ∀ c, OwnFrom w.heap.size (Ix c)) (hIB : Bears Bs I) (hT : ∀ pre W, I pre W → Tab W) (h0 : I [] w)
    (Ax : Nat → Act → World → Prop) (hAx : ∀ x a', OwnFrom w.heap.size (fun (_ : Unit) W => Ax x a' W))
    (hassign : ∀ (l : Nat) (pre : List Nat) (x : Nat) (W : World) (K : Act → World → Prop), I pre W → pre ++ [x] <+: bitsOf s → (∀ a' W', KeepsFrom w.heap.size W W' → SameAt Bs W W' → I pre W' → Ax x a' W' → K a' W') →
      assign.wpIn (Fence.wide.inRound l) (n - 1 - 1) P (Exit.then K (fun _ _ _ => False)) { tmps := (ps.zip #[.int .i64 x]).foldl (fun t (p, v) => t.setIfInBounds p v) a.tmps, defers := [] } W)
    (hbody : ∀ (l : Nat) (pre : List Nat) (x : Nat) (a' : Act) (W : World), w.heap.size ≤ l → I pre W → Ax x a' W → pre ++ [x] <+: bitsOf s → body.wpIn (Fence.wide.inRound l) (n - 1 - 1) P (roundPostK w.heap.size (SameAt Bs) I Ix (pre ++ [x]) W) a' W)
    (hdone : ∀ (D : Nat) (W : World), w.heap.size ≤ D → I (bitsOf s) W → W.heap[D]? = some (.deferred (some [])) → Q .normal { a with defers := { target := .collected D, args := #[] } :: a.defers } W)
    (hstop : ∀ (D : Nat) (c : Code) (pre : List Nat) (W : World), w.heap.size ≤ D → pre <+: bitsOf s → Ix c pre W → W.heap[D]? = some (.deferred (some [])) → c.wpIn Fence.wide n P Q { a with defers := { target := .collected D, args := #[] } :: a.defers } W) :
    (Code.rangeFunc g ps assign body).wpIn Fence.wide n P Q a w := by
  refine wpIn_rangeFunc fun fn hfn => ?_
  have hBw := heap_lt hB
  let rec0 : LoopState → Option Code → Loop := fun st pe => { state := st, pending := pe, fn := fn, tmps := a.tmps, params := ps, assign := assign, body := body, defers := w.heap.size }
  have hB1 : Books w (rec0 .ready none) ((w.alloc (.deferred (some []))).alloc (.loop (rec0 .ready none))) := by
    refine ⟨?_, (heap_alloc_lt _ _ _ (by simp)).trans (heap_alloc_new _ _)⟩
    exact heap_alloc_at _ _ _ (by simp)
  have hsz : ((w.alloc (.deferred (some []))).alloc (.loop (rec0 .ready none))).heap.size = w.heap.size + 2 := by simp
  have hent := run_enterLoop_outer (P := P) (w := w) fn a.tmps ps assign body
  have own : ∀ {A : World} {row : Option Nat}, (∀ r, row = some r → w.heap.size + 2 ≤ r ∧ ∃ o : Obj, A.heap[r]? = some o ∧ o.isWalk = true) → ∀ r, row = some r → w.heap.size ≤ r ∧ ∃ o : Obj, A.heap[r]? = some o ∧ o.isCells = false :=
    fun hr r e => by obtain ⟨hB, o, ho, hw⟩ := hr r e; exact ⟨by omega, o, ho, Obj.not_cells_of_walk hw⟩
  have hKb : ∀ (W : World) (o' : Obj), SameAt Bs W (W.putObj (w.heap.size + 1) o') := fun W o' => by
    have : ¬ w.heap.size + 1 = Bs := by omega
    simp [SameAt, World.putObj, Array.getElem?_setIfInBounds, this]
  refine ⟨w.heap.size + 1, [{ target := .collected w.heap.size, args := #[] }], (w.alloc (.deferred (some []))).alloc (.loop (rec0 .ready none)), { target := .fn (.func gf) #[.pointer (some ⟨Bs, 0, none⟩)], args := #[.func (.yield (w.heap.size + 1)) #[] #[]] }, (w.alloc (.deferred (some []))).alloc (.loop (rec0 .ready none)), gf,
    #[.func (.yield (w.heap.size + 1)) #[] #[]] ++ #[.pointer (some ⟨Bs, 0, none⟩)], (w.alloc (.deferred (some []))).alloc (.loop (rec0 .ready none)), hent, ?_, fun _ _ => trivial, ?_, fun h => by simp [Fence.wide] at h, ?_⟩
  · simp only [resolve, hg]; simp [go_sem]
  · simp [invoke, go_sem, eg]
  refine (hseq (w.heap.size + 1) (fun pre W => I pre W ∧ Books w (rec0 .ready none) W) (fun pre W => ∃ c, Ix c pre W ∧ Books w (rec0 .done (some c)) W) _ (by rw [hsz]; omega) (alloc_old (alloc_old hB)) ?_ ?_ ?_ (fun pre W h => hT pre W h.1) ?_ ⟨hI.alloc _ (hI.alloc _ h0), hB1⟩).mono ?_
  · intro s A B row hs hg' hr
    rw [hsz] at hr
    exact ⟨hI s A B row hs.1 hg' (own hr), hs.2.abides (W1 := (w.alloc (.deferred (some []))).alloc (.loop (rec0 .ready none))) hg' (by rw [hsz]; exact hr)⟩
  · rintro s A B row ⟨c, h1, h2⟩ hg' hr
    rw [hsz] at hr
    exact ⟨c, hIx c s A B row h1 hg' (own hr), h2.abides (W1 := (w.alloc (.deferred (some []))).alloc (.loop (rec0 .ready none))) hg' (by rw [hsz]; exact hr)⟩
  · rintro s A v ⟨h1, h2⟩
    exact ⟨hIB _ _ _ h1, h2.keeps ((KeepsOthers.setCell _ _ _).from _)⟩
  · rintro pre x W ⟨hi, hbk⟩ hx
    have hy := run_yield (P := P) (args := #[Value.int .i64 x]) hbk.1 (by rw [show (rec0 .ready none).params = ps from rfl, hps]; rfl)
    refine ⟨fn, _, assign, body, hy, roundIn_of_wpIn hfn (hassign _ pre x W _ hi hx ?_)⟩
    intro a' Wa hk1 hp1 hi1 hax
    have hbk1 := hbk.keeps hk1
    have hl1 := heap_lt hbk1.1
    have hbk2 := hbk1.turn { rec0 .ready none with state := .busy }
    refine ⟨_, run_beginRound hbk1.1 rfl, wpIn_mono (hbody _ pre x a' _ (by omega) (hI.putObj _ hi1 (by omega) hbk1.1 rfl) ((hAx x a').putObj (s := ()) _ hax (by omega) hbk1.1 rfl) hx) ?_⟩
    have hp2 := hKb Wa (.loop { rec0 .ready none with state := .busy })
    intro e a3 W3 hpost
    have fin : ∀ (jump : Option Code), KeepsFrom w.heap.size (Wa.putObj (w.heap.size + 1) (.loop { rec0 .ready none with state := .busy })) W3 →
        (Instr.endRound (w.heap.size + 1) jump).run P W3 = .ok (.bool jump.isNone) (W3.putObj (w.heap.size + 1) (.loop (rec0 (if jump.isNone then .ready else .done) jump))) ∧ Books w { rec0 .ready none with state := .busy } W3 := fun jump hk3 => by
      have hb3 := hbk2.keeps hk3
      exact ⟨run_endRound (P := P) jump hb3.1, hb3⟩
    have stop : ∀ c, KeepsFrom w.heap.size (Wa.putObj (w.heap.size + 1) (.loop { rec0 .ready none with state := .busy })) W3 → SameAt Bs (Wa.putObj (w.heap.size + 1) (.loop { rec0 .ready none with state := .busy })) W3 → Ix c (pre ++ [x]) W3 →
        ∃ v w', (Instr.endRound (w.heap.size + 1) (some c)).run P W3 = .ok v w' ∧ ((Ending.returned v = .returned (.bool true) ∧ (I (pre ++ [x]) w' ∧ Books w (rec0 .ready none) w') ∧ SameAt Bs W w') ∨ (Ending.returned v = .returned (.bool false) ∧ (∃ c, Ix c (pre ++ [x]) w' ∧ Books w (rec0 .done (some c)) w') ∧ SameAt Bs W w')) := fun c hk3 hp3 hi3 => by
      obtain ⟨hr, hb3⟩ := fin (some c) hk3
      exact ⟨_, _, hr, .inr ⟨rfl, ⟨c, (hIx c).putObj _ hi3 (by omega) hb3.1 rfl, hb3.turn _⟩, hp1.trans ((hp2.trans hp3).trans (hKb _ _))⟩⟩
    cases e with
    | normal =>
      obtain ⟨hk3, hp3, hi3⟩ := hpost
      obtain ⟨hr, hb3⟩ := fin none hk3
      exact ⟨_, _, hr, .inl ⟨rfl, ⟨hI.putObj _ hi3 (by omega) hb3.1 rfl, hb3.turn _⟩, hp1.trans ((hp2.trans hp3).trans (hKb _ _))⟩⟩
    | ret => exact stop _ hpost.1 hpost.2.1 hpost.2.2
    | exit id => exact stop _ hpost.1 hpost.2.1 hpost.2.2
    | goto t => exact hpost.elim
    | panic ch => exact hpost.elim
    | outgrown => exact hpost.elim
  · rintro e W2 ⟨⟨v, rfl⟩, (⟨hi, hbk⟩ | ⟨pre, hSp, c, hi, hbk⟩)⟩
    · exact ⟨none, _, run_endLoop (P := P) hbk.1 (by simp [rec0]), hdone _ _ (Nat.le_refl _) (hI.putObj _ hi (by omega) hbk.1 rfl) ((World.putObj_heap_other (by omega)).trans hbk.2)⟩
    · exact ⟨some c, _, run_endLoop (P := P) hbk.1 (by simp [rec0]), hstop _ c pre _ (Nat.le_refl _) hSp ((hIx c).putObj _ hi (by omega) hbk.1 rfl) ((World.putObj_heap_other (by omega)).trans hbk.2)⟩

/-- the same, where the variable is in no box -/
theorem range_pts {P : Program} {n : Nat} {g : Operand} {ps : Array Tmp} {assign body : Code} {Q : Exit → Act → World → Prop} {a : Act} {w : World}
    {gf Bs s : Nat} {ts : TypeId} (hg : a.eval g = .func (.func gf) #[] #[.pointer (some ⟨Bs, 0, none⟩)]) (eg : ∀ args w, (callFunc gf args).run P w = .ok (.enter gf args) w)
    (hseq : PtsGiven (n - 1) P gf Bs s ts w) (hB : w.heap[Bs]? = some (.cells #[.int .u64 s] ts)) (hps : ps.size = 1)
    (I : List Nat → World → Prop) (Ix : Code → List Nat → World → Prop) (a₁ : Nat → Act) (hI : OwnFrom w.heap.size I) (hIx : ∀ c, OwnFrom w.heap.size (Ix c)) (hIB : Bears Bs I) (hT : ∀ pre W, I pre W → Tab W) (h0 : I [] w)
    (hassign : ∀ (l : Nat) (x : Nat) (W : World) (K : Act → World → Prop), K (a₁ x) W →
      assign.wpIn (Fence.wide.inRound l) (n - 1 - 1) P (Exit.then K (fun _ _ _ => False)) { tmps := (ps.zip #[.int .i64 x]).foldl (fun t (p, v) => t.setIfInBounds p v) a.tmps, defers := [] } W)
    (hbody : ∀ (l : Nat) (pre : List Nat) (x : Nat) (W : World), w.heap.size ≤ l → I pre W → pre ++ [x] <+: bitsOf s → body.wpIn (Fence.wide.inRound l) (n - 1 - 1) P (roundPostK w.heap.size (SameAt Bs) I Ix (pre ++ [x]) W) (a₁ x) W)
    (hdone : ∀ (D : Nat) (W : World), w.heap.size ≤ D → I (bitsOf s) W → W.heap[D]? = some (.deferred (some [])) → Q .normal { a with defers := { target := .collected D, args := #[] } :: a.defers } W)
    (hstop : ∀ (D : Nat) (c : Code) (pre : List Nat) (W : World), w.heap.size ≤ D → pre <+: bitsOf s → Ix c pre W → W.heap[D]? = some (.deferred (some [])) → c.wpIn Fence.wide n P Q { a with defers := { target := .collected D, args := #[] } :: a.defers } W) :
    (Code.rangeFunc g ps assign body).wpIn Fence.wide n P Q a w :=
  range_points hg eg hseq hB hps I Ix hI hIx hIB hT h0 (fun x a' _ => a' = a₁ x) (fun _ _ _ _ _ _ hs _ _ => hs)
    (fun l pre x W K hi _ hK => hassign l x W K (hK _ _ (KeepsFrom.refl _ _) (SameAt.refl _ _) hi rfl)) (fun l pre x a' W hl hi e hx => by subst e; exact hbody l pre x W hl hi hx) hdone hstop
end Go.Proofs.YtmagkcioplcidaeDoor

/- ply: what the listed variables give: the library's table in memory; and the door's own heap meets the list. -/
set_option linter.unusedVariables false
set_option linter.unusedSimpArgs false
namespace Go.Proofs.YtmagkcioplcidaeDoor
open Go.RowKit

abbrev laidL : List (String × DataW Unit) := [("math/bits.deBruijn32tab", Rows.laid_math_bits_deBruijn32tab), ("math/bits.deBruijn64tab", Rows.laid_math_bits_deBruijn64tab)]
theorem laid64_is : (Rows.laid_math_bits_deBruijn64tab : DataW Unit) = .agg (Lib.deBruijn64tab.map fun (n : Nat) => .lit (.int .u8 n)) := by kernel_rfl
theorem tab_of_laid {W : World} (h : laidMetH Tryd.prog laidL W) : Tab W := by
  rw [MakeChecks.laidMetH_plain _ _ _ (by kernel_rfl)] at h
  obtain ⟨ps, ⟨g0, t0, cs0, f0, p0, q0, hg0, ht0, hv0, hd0, ⟨g1, t1, cs1, f1, p1, q1, hg1, ht1, hv1, hd1, _, _⟩, _⟩, _, _⟩ := h
  obtain rfl := Option.some.inj ((show Tryd.prog.globalNamed "math/bits.deBruijn64tab" = some 1 by kernel_rfl).symm.trans hg1)
  obtain rfl := Option.some.inj ((show (Tryd.prog.globals[1]?).map (·.type) = some 86 by kernel_rfl).symm.trans ht1)
  obtain ⟨xs, m, _, ex, hlen, hl, hel⟩ := DataW.trod_array Tryd.underlying86 hd1
  have c5 : Tryd.prog.cellsOf 5 = 1 := by kernel_rfl
  rw [laid64_is] at ex
  have e3 := DataW.agg.inj (Prod.mk.inj ex).1
  have h64 : Lib.deBruijn64tab.length = 64 := rfl
  have key : ∀ tab : List Nat, tab.length = 64 → (tab.map fun (n : Nat) => (DataW.lit (.int .u8 n) : DataW Unit)) = xs.map (·.1) → TabAt 1 tab W := by
    intro tab htl e3 j hj
    have hj64 : j < 64 := by omega
    have hk := hel j hj64
    rw [c5, Nat.mul_one] at hk
    have hjx : j < xs.length := by omega
    rw [List.getElem?_eq_getElem hjx] at hk
    obtain ⟨z, hz1, hz2, _⟩ := DataW.trod_int Tryd.underlying5 hk
    have e4 := congrArg (fun l => l[j]?) e3
    simp only [List.getElem?_map, List.getElem?_eq_getElem hjx, List.getElem?_eq_getElem hj, Option.map_some, hz2] at e4
    have e5 : z = ((tab[j] : Nat) : Int) := by
      have h9 := DataW.lit.inj (Option.some.inj e4)
      simp only [Lit.int.injEq, true_and] at h9
      exact h9.symm
    have hc := World.var?_cell hg1 hv1 j
    rw [hc]
    have e6 : cs1[j]? = some (.int .u8 z) := by
      have := congrArg (fun l => l[0]?) hz1
      simpa using this
    rw [e6, e5]
    have e7 : tab.getD j 0 = tab[j] := by simp [List.getD_eq_getElem?_getD, List.getElem?_eq_getElem hj]
    rw [e7]
  exact key _ h64 e3
end Go.Proofs.YtmagkcioplcidaeDoor

/- Slices of slices of ints that a call has collected. -/
set_option linter.unusedVariables false
set_option linter.unusedSimpArgs false
namespace Go.Proofs.YtmagkcioplcidaeDoor
open Go.RowKit

theorem infoInts : (Tryd.prog.info? 22).map (fun i => (i.zero, i.size, i.bytes)) = some (some (.slice none 0 0), 1, 24) := by kernel_rfl

/-- a row of ints that lies in memory from block 'base' on -/
def OwnRow (base : Nat) (w : World) (v : Value) (xs : List Int) : Prop := w.ownsRow base 3 1 v xs.length (xs.map (Value.int .i64))
theorem OwnRow.reads {base : Nat} {w : World} {v : Value} {xs : List Int} (h : OwnRow base w v xs) : Reads w v xs := Reads.own h
theorem OwnRow.mono {base b : Nat} {w : World} {v : Value} {xs : List Int} (h : OwnRow base w v xs) (hb : b ≤ base) : OwnRow b w v xs := own_mono h hb
theorem OwnRow.below {base : Nat} {w w' : World} {v : Value} {xs : List Int} (h : OwnRow base w v xs) (hb : Below w.heap.size w w') : OwnRow base w' v xs := World.ownsRow.below' h hb
theorem OwnRow.one {base : Nat} {w : World} {v : Value} {xs : List Int} (h : OwnRow base w v xs) : v.oneCell' = true := by
  obtain ⟨_, h1 | ⟨g, cap, cur, h1, _⟩⟩ := h
  · rw [h1.1]; rfl
  · rw [h1]; rfl
theorem Col.slice {w0 w : World} {v : Value} {xs : List Int} (h : Col w0 w v xs) : ∃ a l c, v = .slice a l c := by
  obtain ⟨a, cap, h1, _⟩ := h.reads
  exact ⟨a, _, cap, h1⟩
theorem Col.row {w0 w : World} {v : Value} {xs : List Int} (h : Col w0 w v xs) : OwnRow w0.heap.size w v xs := h.own
/-- a row keeps what it is while a block of another type is written -/
theorem OwnRow.grown {base : Nat} {w w' : World} {v : Value} {xs : List Int} {row : Option Nat} (h : OwnRow base w v xs) (hg : w.grownBy w' row) (hr : ∀ r, row = some r → ∃ cs fr, w.heap[r]? = some (.cells cs 22 fr)) : OwnRow base w' v xs := by
  obtain ⟨h1, h2 | ⟨g, cap, cur, h3, h4, h5, h6⟩⟩ := h
  · exact ⟨h1, .inl h2⟩
  · refine ⟨h1, .inr ⟨g, cap, cur, h3, h4, ?_, h6⟩⟩
    rw [hg.block g (heap_lt h5) (fun e => ?_)]
    · exact h5
    · obtain ⟨cs, fr, hc⟩ := hr g e.symm
      rw [h5] at hc
      injection hc with hc
      injection hc with _ hc _
      exact absurd hc (by decide)

/-- the values of the rows, one by one -/
def RowsAre (base : Nat) (w : World) : List Value → List (List Int) → Prop
  | [], [] => True
  | v :: vs, x :: xs => OwnRow base w v x ∧ RowsAre base w vs xs
  | _, _ => False
theorem RowsAre.len {base : Nat} {w : World} : ∀ {vs : List Value} {xs : List (List Int)}, RowsAre base w vs xs → vs.length = xs.length
  | [], [], _ => rfl
  | _ :: _, _ :: _, h => by simp [RowsAre.len h.2]
  | [], _ :: _, h => h.elim
  | _ :: _, [], h => h.elim
theorem RowsAre.imp {base b' : Nat} {w w' : World} (H : ∀ v x, OwnRow base w v x → OwnRow b' w' v x) : ∀ {vs : List Value} {xs : List (List Int)}, RowsAre base w vs xs → RowsAre b' w' vs xs
  | [], [], _ => trivial
  | _ :: _, _ :: _, h => ⟨H _ _ h.1, RowsAre.imp H h.2⟩
  | [], _ :: _, h => h.elim
  | _ :: _, [], h => h.elim
theorem RowsAre.snoc {base : Nat} {w : World} {v : Value} {x : List Int} (hv : OwnRow base w v x) : ∀ {vs : List Value} {xs : List (List Int)}, RowsAre base w vs xs → RowsAre base w (vs ++ [v]) (xs ++ [x])
  | [], [], _ => ⟨hv, trivial⟩
  | _ :: _, _ :: _, h => ⟨h.1, RowsAre.snoc hv h.2⟩
  | [], _ :: _, h => h.elim
  | _ :: _, [], h => h.elim
theorem RowsAre.at {base : Nat} {w : World} : ∀ {vs : List Value} {xs : List (List Int)} (k : Nat), RowsAre base w vs xs → k < xs.length → ∃ v, vs[k]? = some v ∧ OwnRow base w v (xs.getD k [])
  | [], [], k, _, h => by simp at h
  | v :: _, _ :: _, 0, h, _ => ⟨v, rfl, h.1⟩
  | _ :: _, _ :: _, k + 1, h, hk => by
    obtain ⟨u, h1, h2⟩ := RowsAre.at k h.2 (by simpa using hk)
    exact ⟨u, by simpa using h1, by simpa using h2⟩
  | [], _ :: _, k, h, _ => h.elim
  | _ :: _, [], k, h, _ => h.elim
theorem RowsAre.ones {base : Nat} {w : World} : ∀ {vs : List Value} {xs : List (List Int)}, RowsAre base w vs xs → ∀ u ∈ vs, u.oneCell' = true
  | [], [], _, u, hu => by cases hu
  | _ :: _, _ :: _, h, u, hu => by
    rcases List.mem_cons.1 hu with rfl | hu
    · exact h.1.one
    · exact RowsAre.ones h.2 u hu
  | [], _ :: _, h, _, _ => h.elim
  | _ :: _, [], h, _, _ => h.elim

/-- 'v' is a slice of rows that has been collected since the world was 'w0'; outer slice and rows lie in memory that is new since then -/
def MCol (w0 w : World) (v : Value) (xss : List (List Int)) : Prop := ∃ vs, w.ownsRow w0.heap.size 22 1 v vs.length vs ∧ RowsAre w0.heap.size w vs xss ∧ Below w0.heap.size w0 w
theorem MCol.nil (w0 : World) : MCol w0 w0 (.slice none 0 0) [] := ⟨[], World.ownsRow_nil _ _ _ _, trivial, Below.refl _ _⟩
theorem MCol.below {w0 w : World} {v : Value} {xss : List (List Int)} (h : MCol w0 w v xss) : Below w0.heap.size w0 w := by obtain ⟨_, _, _, h⟩ := h; exact h
theorem MCol.step {w0 w w' : World} {v : Value} {xss : List (List Int)} (h : MCol w0 w v xss) (hb : Below w.heap.size w w') : MCol w0 w' v xss := by
  obtain ⟨vs, h1, h2, h3⟩ := h
  exact ⟨vs, World.ownsRow.below' h1 hb, h2.imp fun _ _ h => h.below hb, h3.trans (hb.mono h3.size)⟩
theorem MCol.lower {w w0 w' : World} {v : Value} {xss : List (List Int)} (h : MCol w0 w' v xss) (hb : Below w.heap.size w w0) : MCol w w' v xss := by
  obtain ⟨vs, h1, h2, h3⟩ := h
  exact ⟨vs, own_mono h1 hb.size, h2.imp fun _ _ h => h.mono hb.size, hb.trans (h3.mono hb.size)⟩
theorem MCol.start {w0 w : World} (hb : Below w0.heap.size w0 w) : MCol w0 w (.slice none 0 0) [] := (MCol.nil w0).step hb |> fun h => h

/-- what a walk takes of it -/
theorem MCol.open {w0 w : World} {v : Value} {xss : List (List Int)} (h : MCol w0 w v xss) :
    ∃ a cap, v = .slice a xss.length cap ∧ xss.length ≤ cap ∧ cap ≤ maxLen ∧
      (∀ k, k < xss.length → ∃ b r, a = some ⟨b, 0, none⟩ ∧ b < w.heap.size ∧ w.cell? ⟨b, k, none⟩ = some r ∧ OwnRow w0.heap.size w r (xss.getD k [])) := by
  obtain ⟨vs, ⟨h0, h1⟩, h2, h3⟩ := h
  have hl := h2.len
  rcases h1 with ⟨rfl, h1⟩ | ⟨g, cap, cur, rfl, hb, hg, hn, hm, hc, ht⟩
  · refine ⟨none, 0, by rw [← hl, h1], by omega, by simp [maxLen], fun k hk => by omega⟩
  · refine ⟨some ⟨g, 0, none⟩, cap, by rw [hl], by omega, hm, fun k hk => ?_⟩
    obtain ⟨r, h4, h5⟩ := h2.at k hk
    refine ⟨g, r, rfl, heap_lt hg, ?_, h5⟩
    rw [cell_of_row _ _ _ _ _ _ hg, ← h4]
    have hk' : k < vs.length := by omega
    have e : cur.toList[k]? = vs[k]? := by
      conv => rhs; rw [← ht]
      rw [List.getElem?_take, if_pos (by omega)]
    simpa using e

theorem MCol.cells {w0 w : World} {v : Value} {xss : List (List Int)} (h : MCol w0 w v xss) : ∀ r, v.ownBlock = some r → ∃ cs fr, w.heap[r]? = some (.cells cs 22 fr) := by
  obtain ⟨vs, ⟨h0, h1⟩, h2, h3⟩ := h
  intro r hr
  rcases h1 with ⟨rfl, h1⟩ | ⟨g, cap, cur, rfl, hb, hg, hn, hm, hc, ht⟩
  · cases hr
  · cases hr; exact ⟨_, _, hg⟩
/-- 'out = append(out, row)' of a slice of rows -/
theorem append_row {ops : Array Oper} {rest : List Oper} {o : Oper} {a : Act} {w0 w : World} {Q : Exit → Act → World → Prop} (hgd : o.guard = none) (s x : Operand)
    (ho : o.op = .call { callee := .builtin .append, args := #[s, x], argTypes := #[33, 33] }) {v r : Value} {xss : List (List Int)} {ys : List Int} (hc : MCol w0 w v xss) (hrow : OwnRow w0.heap.size w r ys) (hs : a.eval s = v)
    (hx : a.eval x = .slice (some ⟨w.heap.size, 0, none⟩) 1 1) (hlen : xss.length ≤ 1000000000)
    (h : ∀ v' w', MCol w0 w' v' (xss ++ [ys]) → v' ≠ .slice none 0 0 → wpList Tryd.prog ops Q rest (a.put o.dst v') w') : wpList Tryd.prog ops Q (o :: rest) a (w.alloc (.cells #[r] 22)) := by
  obtain ⟨i0, hi, hz0, hz1, hz2⟩ := info_parts infoInts
  have hb1 : Below w.heap.size w (w.alloc (.cells #[r] 22)) := (Below.refl _ _).alloc (Nat.le_refl _) _
  have hc1 := hc.step hb1
  have hr1 := hrow.below hb1
  have hc2 := hc1
  obtain ⟨vs, g1, g2, g3⟩ := hc2
  have hl := g2.len
  refine wpList_append_own _ hgd s x 33 ho w0.heap.size 22 i0 (.slice none 0 0) 1 24 Tryd.underlying33 hi hz0 hz1 hz2 rfl (by decide) v vs.length vs hs g1 ⟨w.heap.size, 0, none⟩ 1 1 [r] hx rfl (cell_one_new _ _ _) (by intro u hu; simp only [List.mem_singleton] at hu; subst hu; exact hrow.one) (by simp only [maxLen]; omega) (by omega) g3.size ?_
  intro v' w' hown' hgrow hnil
  refine h v' w' ?_ (fun e => by simpa using (hnil.1 e).2)
  have hcl := hc1.cells
  exact ⟨vs ++ [r], by simpa using hown', RowsAre.snoc (hr1.grown hgrow hcl) (g2.imp fun _ _ h => h.grown hgrow hcl), g3.grown hgrow g3.size (fun k e => (World.ownsRow.lt g1 k e).1)⟩
end Go.Proofs.YtmagkcioplcidaeDoor

/- StudOwn: rows that are written over. -/
set_option linter.unusedVariables false
set_option linter.unusedSimpArgs false
namespace Go.Proofs.YtmagkcioplcidaeDoor
open Go.RowKit

/-- a row of ints in a block of ints from B on; what it holds is free -/
def IRow (B : Nat) (w : World) (r : Value) (L : Nat) : Prop :=
  (r = .slice none 0 0 ∧ L = 0) ∨ ∃ g cap cur, r = .slice (some ⟨g, 0, none⟩) L cap ∧ B ≤ g ∧ w.heap[g]? = some (.cells cur 3 (0, 0)) ∧ L ≤ cap ∧ cap ≤ maxLen ∧ cur.size = cap
theorem IRow.of {B : Nat} {w : World} {r : Value} {xs : List Int} (h : OwnRow B w r xs) : IRow B w r xs.length := by
  obtain ⟨h1, ⟨h2, h3⟩ | ⟨g, cap, cur, h2, h3, h4, h5, h6, h7, _⟩⟩ := h
  · exact .inl ⟨h2, h3⟩
  · exact .inr ⟨g, cap, cur, h2, h3, h4, h5, h6, by omega⟩
theorem IRow.below {B : Nat} {w w' : World} {r : Value} {L : Nat} (h : IRow B w r L) (hb : Below w.heap.size w w') : IRow B w' r L := by
  rcases h with h | ⟨g, cap, cur, h2, h3, h4, h5, h6, h7⟩
  · exact .inl h
  · exact .inr ⟨g, cap, cur, h2, h3, (hb.block g (heap_lt h4)).trans h4, h5, h6, h7⟩
theorem not_both {w : World} {g : Nat} {c1 c2 : Array Value} {f1 f2 : Nat × Nat} (h1 : w.heap[g]? = some (.cells c1 3 f1)) (h2 : w.heap[g]? = some (.cells c2 22 f2)) : False := by
  rw [h1] at h2
  injection h2 with h2
  injection h2 with _ h2 _
  exact absurd h2 (by decide)
theorem IRow.grown {B : Nat} {w w' : World} {r : Value} {L : Nat} {row : Option Nat} (h : IRow B w r L) (hg : w.grownBy w' row) (hr : ∀ r, row = some r → ∃ cs fr, w.heap[r]? = some (.cells cs 22 fr)) : IRow B w' r L := by
  rcases h with h | ⟨g, cap, cur, h2, h3, h4, h5, h6, h7⟩
  · exact .inl h
  · refine .inr ⟨g, cap, cur, h2, h3, (hg.block g (heap_lt h4) (fun e => ?_)).trans h4, h5, h6, h7⟩
    obtain ⟨cs, fr, hc⟩ := hr g e.symm
    exact not_both h4 hc
theorem IRow.set {B : Nat} {w : World} {r : Value} {L g j : Nat} {v : Value} {cur0 : Array Value} (h : IRow B w r L) (hg : w.heap[g]? = some (.cells cur0 3 (0, 0))) : IRow B (w.setCell ⟨g, j, none⟩ v) r L := by
  rcases h with h | ⟨g2, cap, cur, h2, h3, h4, h5, h6, h7⟩
  · exact .inl h
  · by_cases e : g2 = g
    · subst e
      rw [h4] at hg
      cases hg
      exact .inr ⟨g2, cap, _, h2, h3, heap_setCell_same _ _ _ _ _ _ h4, h5, h6, by simpa using h7⟩
    · exact .inr ⟨g2, cap, cur, h2, h3, (heap_setCell_other _ _ _ _ e).trans h4, h5, h6, h7⟩

/-- the slice of rows, while cells of rows are written -/
def Outs (B : Nat) (w2 : World) (A : Nat) (vs : List Value) (W : World) : Prop :=
  Below B w2 W ∧ ∃ cur, W.heap[A]? = some (.cells cur 22 (0, 0)) ∧ (∀ (k : Nat) (u : Value), vs[k]? = some u → cur[k]? = some u) ∧ ∀ u ∈ vs, ∃ L, IRow B W u L
theorem Outs.at {B : Nat} {w2 : World} {A : Nat} {vs : List Value} {W : World} (h : Outs B w2 A vs W) {k : Nat} {u : Value} (hk : vs[k]? = some u) : W.cell? ⟨A, k, none⟩ = some u ∧ ∃ L, IRow B W u L := by
  obtain ⟨h1, cur, h2, h3, h4⟩ := h
  exact ⟨cell_of h2 (h3 k _ hk), h4 _ (List.mem_of_getElem? hk)⟩
theorem Outs.set {B : Nat} {w2 : World} {A : Nat} {vs : List Value} {W : World} {g j : Nat} {v : Value} {cur0 : Array Value} (h : Outs B w2 A vs W) (hB : B ≤ g) (hg : W.heap[g]? = some (.cells cur0 3 (0, 0))) : Outs B w2 A vs (W.setCell ⟨g, j, none⟩ v) := by
  obtain ⟨h1, cur, h2, h3, h4⟩ := h
  refine ⟨h1.setCell hB _, cur, (heap_setCell_other _ _ _ _ (fun e => ?_)).trans h2, h3, fun u hu => ?_⟩
  · subst e; exact not_both hg h2
  · obtain ⟨L, h5⟩ := h4 u hu
    exact ⟨L, h5.set hg⟩

/-- 'out = append(out, rows...)' of a slice of rows that is one's own -/
theorem append_rows {ops : Array Oper} {rest : List Oper} {o : Oper} {a : Act} {w : World} {Q : Exit → Act → World → Prop} (hgd : o.guard = none) (s x : Operand)
    (ho : o.op = .call { callee := .builtin .append, args := #[s, x], argTypes := #[33, 33] }) {B : Nat} {v : Value} {vs news : List Value} {g m c : Nat} (hc : w.ownsRow B 22 1 v vs.length vs) (hB : B ≤ w.heap.size) (hs : a.eval s = v)
    (hx : a.eval x = .slice (some ⟨g, 0, none⟩) m c) (hm : news.length = m) (hnews : ∀ j u, news[j]? = some u → w.cell? ⟨g, j, none⟩ = some u) (h1 : ∀ u ∈ news, u.oneCell' = true) (hlen : vs.length + m ≤ 1000000)
    (h : ∀ v' w', w'.ownsRow B 22 1 v' (vs ++ news).length (vs ++ news) → Below B w w' → (∀ r L, IRow B w r L → IRow B w' r L) → wpList Tryd.prog ops Q rest (a.put o.dst v') w') : wpList Tryd.prog ops Q (o :: rest) a w := by
  obtain ⟨i0, hi, hz0, hz1, hz2⟩ := info_parts infoInts
  have hadd : ∀ j, (⟨g, 0, none⟩ : Addr).add j = ⟨g, j, none⟩ := fun j => by unfold Addr.add; split <;> simp_all
  refine wpList_append_own _ hgd s x 33 ho B 22 i0 (.slice none 0 0) 1 24 Tryd.underlying33 hi hz0 hz1 hz2 rfl (by decide) v vs.length vs hs hc ⟨g, 0, none⟩ m c news hx (by omega) (fun j u hj => by rw [hadd]; exact hnews j u hj) h1 (by simp only [maxLen]; omega) (by omega) hB ?_
  intro v' w' hown' hgrow hnil
  refine h v' w' (by rw [List.length_append, hm]; exact hown') ((Below.refl B w).grown hgrow hB (fun k e => (World.ownsRow.lt hc k e).1)) (fun r L hr => hr.grown hgrow ?_)
  intro k hk
  obtain ⟨h0, h2 | ⟨g2, cap, cur, h3, h4, h5, h6⟩⟩ := hc
  · rw [h2.1] at hk; cases hk
  · rw [h3] at hk; cases hk; exact ⟨_, _, h5⟩
theorem run_append_none (g : Nat) (ty : TypeId) (w : World) (cs : Array Value) (hg : w.heap[g]? = some (.cells cs 22 (0, 0))) : (Builtin.append_ #[33, 33] ty #[.slice (some ⟨g, 0, none⟩) 0 0, .slice none 0 0]).run Tryd.prog w = .ok (.slice (some ⟨g, 0, none⟩) 0 0) w := by
  obtain ⟨i0, hi, hz0, hz1, hz2⟩ := info_parts infoInts
  simp [Builtin.append_, run_underlying Tryd.underlying33, sizeOf, typeInfo, hi, Builtin.lenOf, Builtin.firstCells, loadCells, loadCellsFrom, storeCells]
/-- the first append: of the rows of a slice that is one's own, or nil -/
theorem append_first {ops : Array Oper} {rest : List Oper} {o : Oper} {a : Act} {w : World} {Q : Exit → Act → World → Prop} (hgd : o.guard = none) (s x : Operand)
    (ho : o.op = .call { callee := .builtin .append, args := #[s, x], argTypes := #[33, 33] }) {B B' g0 : Nat} {ts : List Value} {tv : Value} (hc : w.ownsRow B 22 1 (.slice (some ⟨g0, 0, none⟩) 0 0) ([] : List Value).length []) (hB : B ≤ w.heap.size)
    (hs : a.eval s = .slice (some ⟨g0, 0, none⟩) 0 0) (hx : a.eval x = tv) (ht : w.ownsRow B' 22 1 tv ts.length ts) (h1 : ∀ u ∈ ts, u.oneCell' = true) (hlen : ts.length ≤ 1000)
    (h : ∀ v' w', w'.ownsRow B 22 1 v' ts.length ts → Below B w w' → (∀ r L, IRow B w r L → IRow B w' r L) → wpList Tryd.prog ops Q rest (a.put o.dst v') w') : wpList Tryd.prog ops Q (o :: rest) a w := by
  obtain ⟨ht1, ⟨rfl, h0⟩ | ⟨g, cap, cur, rfl, hb, hg, hn, hm, hcs, htk⟩⟩ := ht
  · obtain rfl : ts = [] := List.length_eq_zero_iff.1 h0
    obtain ⟨_, ⟨hh, _⟩ | ⟨g2, cap2, cur2, he2, hb2, hg2, a1, a2, a3, a4⟩⟩ := hc
    · cases hh
    · cases he2
      refine wpList_plain hgd fun _ hK => ?_
      have hrun := run_append_none g0 o.type w _ hg2
      unfold Oper.wp execOp
      simp only [ho, resolve, invoke, builtin, Sem.run_bind, Sem.run_pure, Result.andThen_ok, List.map_toArray, List.map_cons, List.map_nil, hs, hx, hrun]
      exact hK _ _ (h _ _ ⟨rfl, .inr ⟨g0, 0, cur2, rfl, hb2, hg2, a1, a2, a3, a4⟩⟩ (Below.refl _ _) (fun r L hr => hr))
  · have hct : ∀ j u, ts[j]? = some u → w.cell? ⟨g, j, none⟩ = some u := by
      intro j u hj
      have hjl : j < ts.length := (List.getElem?_eq_some_iff.1 hj).1
      refine cell_of hg ?_
      rw [← htk, List.getElem?_take, if_pos (by omega)] at hj
      simpa using hj
    exact append_rows hgd s x ho hc hB hs hx rfl hct h1 (by simp; omega) (fun v' w' k1 k2 k3 => h v' w' (by simpa using k1) k2 k3)
theorem own_some {w : World} {B : Nat} {v : Value} {vs : List Value} (h : w.ownsRow B 22 1 v vs.length vs) (h0 : 0 < vs.length) :
    ∃ A cap cur, v = .slice (some ⟨A, 0, none⟩) vs.length cap ∧ B ≤ A ∧ w.heap[A]? = some (.cells cur 22 (0, 0)) ∧ vs.length ≤ cap ∧ cap ≤ maxLen ∧ ∀ (k : Nat) (u : Value), vs[k]? = some u → cur[k]? = some u := by
  obtain ⟨h1, ⟨_, h2⟩ | ⟨g, cap, cur, h2, h3, h4, h5, h6, h7, h8⟩⟩ := h
  · omega
  · refine ⟨g, cap, cur, h2, h3, h4, h5, h6, fun k u hk => ?_⟩
    have hkl : k < vs.length := (List.getElem?_eq_some_iff.1 hk).1
    rw [← h8, List.getElem?_take, if_pos (by omega)] at hk
    simpa using hk
end Go.Proofs.YtmagkcioplcidaeDoor

/- ply: within, has, all. -/
set_option linter.unusedVariables false
set_option linter.unusedSimpArgs false
namespace Go.Proofs.YtmagkcioplcidaeDoor
open Go.RowKit

theorem has_bit (s p : Nat) (hs : s < 64) : (bits .and .u64 ((s : Int) / 2 ^ p) 1 == 1) = s.testBit p := by
  have h0 : s / 2 ^ p ≤ s := Nat.div_le_self _ _
  have h1 : ((s : Int) / 2 ^ p) = ((s / 2 ^ p : Nat) : Int) := by push_cast; rfl
  have h2 := u64_and (s / 2 ^ p) 1 (by omega) (by omega)
  rw [Nat.testBit_eq_decide_div_mod_eq, h1, show (1 : Int) = ((1 : Nat) : Int) from rfl, h2, Nat.and_one_is_mod]
  rw [Bool.eq_iff_iff, beq_iff_eq, decide_eq_true_eq]
  omega
theorem refhas_bit (s p : Nat) : (((s : Int) / 2 ^ p).tmod 2 == 1) = s.testBit p := by
  have h1 : ((s : Int) / 2 ^ p) = ((s / 2 ^ p : Nat) : Int) := by push_cast; rfl
  rw [Nat.testBit_eq_decide_div_mod_eq, h1, Bool.eq_iff_iff, beq_iff_eq, decide_eq_true_eq, Int.tmod_eq_emod_of_nonneg (Int.natCast_nonneg _)]
  omega
theorem refWithin_any (a b : Nat) (w : World) (ha : a < 64) (hb : b < 64) :
    Calls Tryd.prog 44 #[.int .i64 a, .int .i64 b] w fun e w' => e = .returned (.bool (subB a b)) ∧ w = w' := by
  have e1 := i64_and a b (by omega) (by omega)
  have e2 : (((a &&& b : Nat) : Int) == (a : Int)) = subB a b := by
    rw [Bool.eq_iff_iff, beq_iff_eq, sub_iff]
    constructor
    · intro h i hi
      have h2 : a &&& b = a := by omega
      rw [← h2, Nat.testBit_and, Bool.and_eq_true] at hi
      exact hi.2
    · intro h
      have := sub_and (sub_iff.2 h)
      omega
  go_enter Tryd.func44, Tryd.ntmps44
  go_wp2
  go_ret
  exact ⟨rfl, rfl⟩
theorem has_any (s p : Nat) (w : World) (hs : s < 64) (hp : p < 64) :
    Calls Tryd.prog 25 #[.int .u64 s, .int .i64 p] w fun e w' => e = .returned (.bool (s.testBit p)) ∧ w = w' := by
  go_enter Tryd.func25, Tryd.ntmps25
  go_wp2
  go_ret
  exact ⟨ret_bool (has_bit s p hs), rfl⟩
theorem refHas_any (s p : Nat) (w : World) (hs : s < 64) (hp : p < 64) :
    Calls Tryd.prog 31 #[.int .i64 s, .int .i64 p] w fun e w' => e = .returned (.bool (s.testBit p)) ∧ w = w' := by
  go_enter Tryd.func31, Tryd.ntmps31
  go_wp2
  go_ret
  exact ⟨ret_bool (refhas_bit s p), rfl⟩
end Go.Proofs.YtmagkcioplcidaeDoor

/- ply's reference: Other. -/
set_option linter.unusedVariables false
set_option linter.unusedSimpArgs false
namespace Go.Proofs.YtmagkcioplcidaeDoor
open Go.RowKit

def setB (n : Nat) (x : Int) : Bool := decide (0 ≤ x ∧ x < 2 ^ n)
end Go.Proofs.YtmagkcioplcidaeDoor

/- ply's laws: gives. -/
set_option linter.unusedVariables false
set_option linter.unusedSimpArgs false
namespace Go.Proofs.YtmagkcioplcidaeDoor
open Go.RowKit

end Go.Proofs.YtmagkcioplcidaeDoor

/- ply's reference: IsOpen. -/
set_option linter.unusedVariables false
set_option linter.unusedSimpArgs false
namespace Go.Proofs.YtmagkcioplcidaeDoor
open Go.RowKit

def ofNats (cs : List Nat) : List Int := cs.map fun (c : Nat) => (c : Int)
theorem ofNats_len (cs : List Nat) : (ofNats cs).length = cs.length := by simp [ofNats]
theorem gi_nats (cs : List Nat) (p : Nat) : gi (ofNats cs) p = (cell cs p : Int) := by
  unfold gi ofNats cell
  rw [List.getD_eq_getElem?_getD, List.getD_eq_getElem?_getD, List.getElem?_map]
  cases cs[p]? <;> rfl
theorem cell_64 {cs : List Nat} (hc : Codes cs) (p : Nat) : cell cs p < 64 :=
  Nat.lt_of_lt_of_le (hc.2.2 p) (Nat.pow_le_pow_right (n := 2) (by omega) hc.2.1)

set_option maxRecDepth 100000 in
set_option maxHeartbeats 800000 in
theorem refIsOpen_any (v : Value) (cs : List Nat) (s : Nat) (w : World) (hr : Reads w v (ofNats cs)) (hc : Codes cs) (hs : s < 64) :
    Calls Tryd.prog 32 #[v, .int .i64 s] w fun e w' => e = .returned (.bool (openB cs s)) ∧ w = w' := by
  obtain ⟨a, cap, rfl, h1, h2, hcell⟩ := hr.open
  have hl6 := hc.2.1
  have HC := Lib.hid (cell_64 hc)
  have hlen := ofNats_len cs
  rw [hlen] at h1 hcell ⊢
  generalize hn : cs.length = n at *
  have HN := Lib.hid hn
  clear h2 hr hc hlen hn
  go_enter Tryd.func32, Tryd.ntmps32
  go_wp2_with fail
  go_loop [5] (fun i => ∃ k : Nat, k ≤ n ∧ i = .int .i64 k ∧ ∀ p, p < k → s.testBit p = true → subB (cell cs p) s = true) (fun i => n - (intOf i).toNat)
  case atStart => exact ⟨0, by omega, rfl, fun p hp => by omega⟩
  case round =>
    obtain ⟨k, hk, rfl, hdone⟩ := hrel
    have HD := Lib.hid hdone
    clear hdone
    by_cases hlt : k < n
    · obtain ⟨b, off, rfl, hb, hck⟩ := hcell k hlt
      rw [gi_nats] at hck
      have hc64 := HC.out k
      have k0 : (0 : Int) ≤ (k : Int) := by omega
      have k1 : (k : Int) < (n : Int) := by omega
      clear hcell
      rcases hbit : s.testBit k with _ | _
      · have HB := Lib.hid hbit
        clear hbit
        go_wp2_with fail
        refine (refHas_any s k _ hs (by omega)).mono ?_
        rintro e w' ⟨rfl, rfl⟩
        rw [HB.out]
        go_wp2_with fail
        go_round
        case rel => exact ⟨k + 1, by omega, by go_num, fun p hp hpb => by
          by_cases e : p = k
          · subst e; rw [HB.out] at hpb; cases hpb
          · exact HD.out p (by omega) hpb⟩
        case measure => simp [intOf]; omega
      · rcases hsub : subB (cell cs k) s with _ | _
        · have HB := Lib.hid hbit
          have HS := Lib.hid hsub
          clear hbit hsub
          go_wp2_with fail
          refine (refHas_any s k _ hs (by omega)).mono ?_
          rintro e w' ⟨rfl, rfl⟩
          rw [HB.out]
          go_wp2_with fail
          refine (refWithin_any (cell cs k) s _ hc64 hs).mono ?_
          rintro e w' ⟨rfl, rfl⟩
          rw [HS.out]
          go_wp2_with fail
          go_ret
          refine ⟨ret_bool ?_, rfl⟩
          symm
          rcases ho : openB cs s with _ | _
          · rfl
          · have := open_iff.1 ho k (by rw [HN.out]; exact hlt) HB.out
            rw [HS.out] at this; cases this
        · have HB := Lib.hid hbit
          have HS := Lib.hid hsub
          clear hbit hsub
          go_wp2_with fail
          refine (refHas_any s k _ hs (by omega)).mono ?_
          rintro e w' ⟨rfl, rfl⟩
          rw [HB.out]
          go_wp2_with fail
          refine (refWithin_any (cell cs k) s _ hc64 hs).mono ?_
          rintro e w' ⟨rfl, rfl⟩
          rw [HS.out]
          go_wp2_with fail
          go_round
          case rel => exact ⟨k + 1, by omega, by go_num, fun p hp hpb => by
            by_cases e : p = k
            · subst e; exact HS.out
            · exact HD.out p (by omega) hpb⟩
          case measure => simp [intOf]; omega
    · obtain rfl : k = n := by omega
      have HO : Hid (openB cs s = true) := Lib.hid (open_iff.2 fun p hp hb => HD.out p (by rw [← HN.out]; exact hp) hb)
      clear hcell
      go_wp2_with fail
      go_ret
      exact ⟨ret_bool HO.out.symm, rfl⟩
end Go.Proofs.YtmagkcioplcidaeDoor

/- ply's reference: Opens. -/
set_option linter.unusedVariables false
set_option linter.unusedSimpArgs false
namespace Go.Proofs.YtmagkcioplcidaeDoor
open Go.RowKit

def openTo (cs : List Nat) (k : Nat) : List Nat := (List.range k).filter fun s => openB cs s
theorem openTo_succ (cs : List Nat) (k : Nat) : ofNats (openTo cs (k + 1)) = ofNats (openTo cs k) ++ if openB cs k = true then [(k : Int)] else [] := by
  unfold openTo
  rw [List.range_succ, List.filter_append]
  by_cases h : openB cs k = true
  · simp [ofNats, h]
  · simp [ofNats, h]
theorem openTo_len (cs : List Nat) (k : Nat) : (ofNats (openTo cs k)).length ≤ k := by
  rw [ofNats_len]; unfold openTo
  have := List.length_filter_le (fun s => openB cs s) (List.range k)
  simpa using this

set_option maxRecDepth 100000 in
set_option maxHeartbeats 1600000 in
theorem refOpens_any (v : Value) (cs : List Nat) (w : World) (hr : Reads w v (ofNats cs)) (hc : Codes cs) :
    Calls Tryd.prog 15 #[v] w fun e w' => ∃ v', e = .returned v' ∧ Col w w' v' (ofNats (opensN cs)) := by
  have hr0 := hr
  obtain ⟨a, cap, rfl, _, _, _⟩ := hr.open
  have hlen := ofNats_len cs
  rw [hlen] at hr0 hr ⊢
  have hl1 := hc.1
  have hl6 := hc.2.1
  have HR := Lib.hid hr0
  have HC := Lib.hid hc
  obtain ⟨N, hN⟩ : ∃ N, 2 ^ cs.length = N := ⟨_, rfl⟩
  have hN64 : N ≤ 64 := by rw [← hN]; exact Nat.pow_le_pow_right (n := 2) (by omega) hl6
  have HN : Hid (openTo cs N = opensN cs) := Lib.hid (by rw [← hN]; rfl)
  have hsh : ((2 : Int) ^ cs.length) = (N : Int) := by rw [← hN]; push_cast; rfl
  generalize cs.length = n at *
  clear hr hr0 hc hlen hN
  go_enter Tryd.func15, Tryd.ntmps15
  go_wp2_with fail
  go_loopw [3, 4] (fun v i wr => ∃ k : Nat, k ≤ N ∧ i = .int .i64 k ∧ Col w wr v (ofNats (openTo cs k))) (fun _ i _ => N - (intOf i).toNat)
  case atStart => exact ⟨0, by omega, rfl, Col.nil _⟩
  case round =>
    obtain ⟨k, hk, rfl, hcol⟩ := hrel
    have HCOL := Lib.hid hcol
    clear hcol
    by_cases hlt : k < N
    · go_wp2_with fail
      refine (refIsOpen_any _ cs k _ (HR.out.below HCOL.out.below) HC.out (by omega)).mono ?_
      rintro e w1 ⟨rfl, rfl⟩
      have hst := openTo_succ cs k
      rcases hop : openB cs k with _ | _
      · rw [hop] at hst
        have HS := Lib.hid hst
        clear hst hop
        go_wp2_with fail
        go_roundw
        case rel => exact ⟨k + 1, by omega, by go_num, by rw [HS.out]; simpa using HCOL.out⟩
        case measure => simp [intOf]; omega
      · rw [hop, if_pos rfl] at hst
        have HS := Lib.hid hst
        have HL : Hid ((ofNats (openTo cs k)).length ≤ 1000000000) := Lib.hid (by have := openTo_len cs k; omega)
        clear hst hop
        go_wp2_with (at_builtin; refine append_int rfl _ _ rfl HCOL.out rfl _ rfl HL.out ?_; intro v' w' hcol' hne)
        go_roundw
        case rel => exact ⟨k + 1, by omega, by go_num, by rw [HS.out]; exact hcol'⟩
        case measure => simp [intOf]; omega
    · obtain rfl : k = N := by omega
      go_wp2_with fail
      go_ret
      exact ⟨_, rfl, by rw [← HN.out]; exact HCOL.out⟩
end Go.Proofs.YtmagkcioplcidaeDoor

/- ply's reference: Inside. -/
set_option linter.unusedVariables false
set_option linter.unusedSimpArgs false
namespace Go.Proofs.YtmagkcioplcidaeDoor
open Go.RowKit

theorem join_take (s : Nat) (L : List Nat) (k : Nat) (hk : k < L.length) : joinN s (L.take (k + 1)) = if subB (cell L k) s = true then joinN s (L.take k) ||| cell L k else joinN s (L.take k) := by
  unfold joinN cell
  rw [List.take_succ_eq_append_getElem hk, List.foldl_append, List.foldl_cons, List.foldl_nil, List.getD_eq_getElem?_getD, List.getElem?_eq_getElem hk]
  rfl
theorem opens_lt {cs : List Nat} (hc : Codes cs) (k : Nat) : cell (opensN cs) k < 64 := by
  unfold cell
  rw [List.getD_eq_getElem?_getD]
  by_cases hk : k < (opensN cs).length
  · rw [List.getElem?_eq_getElem hk]
    have hm : (opensN cs)[k] ∈ opensN cs := List.getElem_mem hk
    unfold opensN at hm
    rw [List.mem_filter, List.mem_range] at hm
    exact Nat.lt_of_lt_of_le hm.1 (Nat.pow_le_pow_right (n := 2) (by omega) hc.2.1)
  · rw [List.getElem?_eq_none (by omega)]; decide

end Go.Proofs.YtmagkcioplcidaeDoor

/- The library's bits.TrailingZeros, here. -/
set_option linter.unusedVariables false
set_option linter.unusedSimpArgs false
namespace Go.Proofs.YtmagkcioplcidaeDoor
open Go.RowKit Go.Shelf

def tzRen : Ren := ⟨fun n => if n = 27 then 49 else if n = 28 then 54 else 55,
  fun n => if n = 0 then 0 else if n = 3 then 3 else if n = 4 then 4 else if n = 5 then 5 else if n = 22 then 83 else if n = 25 then 37 else if n = 27 then 81 else if n = 53 then 85 else 86,
  fun n => if n = 0 then 0 else 1⟩
theorem tzLays : Lays7.n27 Tryd.prog tzRen where
  mixed := by kernel_rfl
  f27 := by kernel_rfl
  f28 := by kernel_rfl
  f29 := by kernel_rfl
  t0 := by kernel_rfl
  a0 := fun w => by kernel_rfl
  z0 := fun w => by kernel_rfl
  v0 := fun w => by kernel_rfl
  i0 := by kernel_rfl
  t3 := by kernel_rfl
  a3 := fun w => by kernel_rfl
  z3 := fun w => by kernel_rfl
  v3 := fun w => by kernel_rfl
  i3 := by kernel_rfl
  t4 := by kernel_rfl
  a4 := fun w => by kernel_rfl
  z4 := fun w => by kernel_rfl
  v4 := fun w => by kernel_rfl
  i4 := by kernel_rfl
  t5 := by kernel_rfl
  a5 := fun w => by kernel_rfl
  z5 := fun w => by kernel_rfl
  v5 := fun w => by kernel_rfl
  i5 := by kernel_rfl
  t22 := by kernel_rfl
  a22 := fun w => by kernel_rfl
  z22 := fun w => by kernel_rfl
  v22 := fun w => by kernel_rfl
  i22 := by kernel_rfl
  t25 := by kernel_rfl
  a25 := fun w => by kernel_rfl
  z25 := fun w => by kernel_rfl
  v25 := fun w => by kernel_rfl
  i25 := by kernel_rfl
  t27 := by kernel_rfl
  a27 := fun w => by kernel_rfl
  z27 := fun w => by kernel_rfl
  v27 := fun w => by kernel_rfl
  i27 := by kernel_rfl
  t53 := by kernel_rfl
  a53 := fun w => by kernel_rfl
  z53 := fun w => by kernel_rfl
  v53 := fun w => by kernel_rfl
  i53 := by kernel_rfl
  t54 := by kernel_rfl
  a54 := fun w => by kernel_rfl
  z54 := fun w => by kernel_rfl
  g0 := by kernel_rfl
  g1 := by kernel_rfl

theorem tz_any (x : Nat) (hx : x < 64) (w : World) (hT : Tab w) :
    Calls Tryd.prog 49 #[.int .u64 x] w fun e w' => e = .returned (.int .i64 (Lib.ctz 64 x)) ∧ w = w' :=
  (Any7.bits_TrailingZeros tzLays x (by omega) w (fun _ => hT)).mono fun e w' h => ⟨h.1, h.2.symm⟩
end Go.Proofs.YtmagkcioplcidaeDoor

/- The imports of a fenced walk. -/
namespace Go.Proofs.YtmagkcioplcidaeDoor
open Go.RowKit

theorem RoundIn.any {m : Nat} (m' : Nat) {l f : Nat} {tmps : Array Value} {ca bd : Code} {W : World} {R : Ending → World → Prop} (h : RoundIn Fence.wide m Tryd.prog l f tmps ca bd W R) : RoundIn Fence.wide m' Tryd.prog l f tmps ca bd W R :=
  ⟨h.1, fun c cs _ => h.2 c cs (room_wide _)⟩
theorem CallsIn.any {m : Nat} (m' : Nat) {f : Nat} {args : Array Value} {W : World} {R : Ending → World → Prop} (h : CallsIn Fence.wide m Tryd.prog f args W R) : CallsIn Fence.wide m' Tryd.prog f args W R := callsIn_wide.2 (callsIn_wide.1 h)
theorem below_drewN (w : World) (n : Nat) : Below w.heap.size w (w.drewN n) := by
  induction n generalizing w with
  | zero => exact Below.refl _ _
  | succ n ih =>
    have h : Below w.heap.size w.drew (w.drew.drewN n) := ih w.drew
    rw [← World.drew_drewN]
    exact ⟨h.os, h.tape, h.output, h.size, h.block⟩
theorem heap_drewN (w : World) (n k : Nat) : (w.drewN n).heap[k]? = w.heap[k]? := by
  induction n generalizing w with
  | zero => rfl
  | succ n ih => rw [← World.drew_drewN]; exact ih w
theorem size_drewN (w : World) (n : Nat) : (w.drewN n).heap.size = w.heap.size := by
  induction n generalizing w with
  | zero => rfl
  | succ n ih => rw [← World.drew_drewN]; exact ih w
theorem keeps_drewN (B : Nat) (w : World) (n : Nat) : KeepsFrom B w (w.drewN n) := ⟨by rw [size_drewN]; exact Nat.le_refl _, fun k o _ h _ => by rw [heap_drewN]; exact h⟩
theorem below_to {B : Nat} {w0 w w' : World} (h : Below B w0 w) (hB : B ≤ w.heap.size) (k : Below w.heap.size w w') : Below B w0 w' := h.trans (k.mono hB)
theorem keeps_set (B : Nat) (w : World) (k j : Nat) (v : Value) : KeepsFrom B w (w.setCell ⟨k, j, none⟩ v) := (KeepsOthers.setCell _ _ _).from _
end Go.Proofs.YtmagkcioplcidaeDoor

/- ply: points, the iterator over the points of a set. -/
set_option linter.unusedVariables false
set_option linter.unusedSimpArgs false
namespace Go.Proofs.YtmagkcioplcidaeDoor
open Go.RowKit Go.Shelf
attribute [local go_sem] Oper.semAt_some

theorem points_any (s : Nat) (w : World) :
    Calls Tryd.prog 37 #[.int .u64 s] w fun e w' => e = .returned (.func (.func 48) #[] #[.pointer (some ⟨w.heap.size, 0, none⟩)]) ∧ w.alloc (.cells #[.int .u64 s] 38) = w' := by
  go_enter Tryd.func37, Tryd.ntmps37
  go_wp2
  go_ret
  exact ⟨rfl, rfl⟩

theorem u64_dec (c : Nat) (h0 : c ≠ 0) (h : c < 64) : IntKind.u64.wrap ((c : Int) - 1) = ((c - 1 : Nat) : Int) := by
  rw [show ((c : Int) - 1) = ((c - 1 : Nat) : Int) by omega]
  exact wrapU _ (by omega)

set_option maxRecDepth 100000 in
set_option maxHeartbeats 1600000 in
theorem points_given (s Bs : Nat) (hs : s < 64) (n : Nat) (hn : 1 ≤ n - 1) (w : World) (hBs : Bs < w.heap.size) : PtsGiven n Tryd.prog 48 Bs s 38 w := by
  intro l J Jx W hW hB hJ hJx hbear hT hY h0
  refine callsIn_of_wp Tryd.func48 rfl trivial ?_ rfl
  simp only [Tryd.ntmps48, List.size_toArray, List.length_cons, List.length_nil, Nat.reduceAdd, Nat.reduceSub, Array.replicate_succ, Array.replicate_zero, List.push_toArray, List.append_toArray, List.nil_append, List.cons_append]
  gi_wp2_with fail
  gi_loopw [3] (fun _ wr => ∃ (c : Nat) (pre : List Nat), c < 64 ∧ pre ++ bitsOf c = bitsOf s ∧ wr.heap[Bs]? = some (.cells #[.int .u64 c] 38) ∧ J pre wr) (fun _ wr => match wr.cell? ⟨Bs, 0, none⟩ with | some (.int _ c) => c.toNat | _ => 0)
  case atStart => exact ⟨s, [], hs, rfl, hB, h0⟩
  case round =>
    obtain ⟨c, pre, hc, hpre, hBc, hj⟩ := hrel
    have c1 := cell_of hBc (j := 0) rfl
    by_cases hc0 : c = 0
    · subst hc0
      have hp : pre = bitsOf s := by rw [bitsOf_zero, List.append_nil] at hpre; exact hpre
      have HP := Lib.hid hp
      clear hp hpre
      gi_wp2_with fail
      go_end0
      exact ⟨⟨_, rfl⟩, .inl (by rw [← HP.out]; exact hj)⟩
    · have hpos : (0 : Int) < (c : Int) := by omega
      obtain ⟨hstep, hlt, hx6⟩ := bitsOf_step hc hc0
      have hpx : pre ++ [Lib.ctz 64 c] <+: bitsOf s := by rw [← hpre, hstep]; exact ⟨bitsOf (c &&& (c - 1)), by simp⟩
      have hpre2 : (pre ++ [Lib.ctz 64 c]) ++ bitsOf (c &&& (c - 1)) = bitsOf s := by rw [← hpre, hstep]; simp
      obtain ⟨fn, tmps, assign, body, hy, hR⟩ := hY pre (Lib.ctz 64 c) wr hj hpx
      have htab := hT pre wr hj
      have htz := Lib.hid (tz_any c hc wr htab)
      have hand := u64_and c (c - 1) (by omega) (by omega)
      have hdec := u64_dec c hc0 hc
      have HP2 := Lib.hid hpre2
      have HPX := Lib.hid hpx
      have HC := Lib.hid c1
      have HLT := Lib.hid hlt
      clear hpre hpre2 hpx hstep hlt hY hB h0
      generalize Lib.ctz 64 c = x at *
      gi_wp2_with fail
      refine ⟨trivial, fun h => by simp [Fence.wide] at h, (callsIn_wide.2 htz.out).mono ?_⟩
      rintro e w' ⟨rfl, rfl⟩
      gi_wp2_with fail
      refine ⟨fun h => by simp [Fence.wide] at h, ?_⟩
      have hR2 := hR.mono (R' := fun e W' => ∃ b, e = .returned (.bool b) ∧ SameAt Bs wr W' ∧ (b = true → J (pre ++ [x]) W') ∧ (b = false → Jx (pre ++ [x]) W')) (by
        rintro e W' (⟨rfl, h3, h4⟩ | ⟨rfl, h3, h4⟩)
        · exact ⟨true, rfl, h4, fun _ => h3, fun h => (by cases h)⟩
        · exact ⟨false, rfl, h4, fun h => (by cases h), fun _ => h3⟩)
      clear hR hy htz
      refine hR2.mono ?_
      rintro e w1 ⟨b, rfl, hsame, hjt, hjf⟩
      have hB1 : w1.heap[Bs]? = some (.cells #[.int .u64 c] 38) := Eq.trans hsame hBc
      cases b
      · gi_wp2_with fail
        refine bodyPost_ret (results_none rfl _ _ _) rfl ?_
        exact ⟨⟨_, rfl⟩, .inr ⟨_, HPX.out, hjf trivial⟩⟩
      · have c2 := cell_of hB1 (j := 0) rfl
        have f2 := free_of hB1 0
        have hb2 := hbear _ _ (.int .u64 ((c &&& (c - 1) : Nat))) (hjt rfl)
        have hs2 := set_same (u := .int .u64 ((c &&& (c - 1) : Nat))) hB1
        have HB2 := Lib.hid hb2
        have HS2 := Lib.hid hs2
        clear hjt hjf hb2 hs2
        gi_wp2_with fail
        go_roundw
        case rel => exact ⟨c &&& (c - 1), pre ++ [x], by have := HLT.out; omega, HP2.out, HS2.out, HB2.out⟩
        case measure =>
          rw [cell_of HS2.out (j := 0) rfl, HC.out]
          have := HLT.out
          simp; omega
end Go.Proofs.YtmagkcioplcidaeDoor

/- ply: spaces as values and in memory; within, all. -/
set_option linter.unusedVariables false
set_option linter.unusedSimpArgs false
namespace Go.Proofs.YtmagkcioplcidaeDoor
open Go.RowKit

/-- a space as a value -/
abbrev spF (n : Nat) (c : Nat → Nat) : Value := .agg #[.int .i64 n, .int .u64 (c 0), .int .u64 (c 1), .int .u64 (c 2), .int .u64 (c 3), .int .u64 (c 4), .int .u64 (c 5)]
abbrev spV (cs : List Nat) : Value := .agg #[.int .i64 cs.length, .int .u64 (cell cs 0), .int .u64 (cell cs 1), .int .u64 (cell cs 2), .int .u64 (cell cs 3), .int .u64 (cell cs 4), .int .u64 (cell cs 5)]
/-- a space in memory -/
def SpF (w : World) (b : Nat) (n : Nat) (c : Nat → Nat) : Prop := w.heap[b]? = some (.cells #[.int .i64 n, .int .u64 (c 0), .int .u64 (c 1), .int .u64 (c 2), .int .u64 (c 3), .int .u64 (c 4), .int .u64 (c 5)] 41)
abbrev SpAt (w : World) (b : Nat) (cs : List Nat) : Prop := SpF w b cs.length (cell cs)
theorem SpF.cell {w : World} {b n : Nat} {c : Nat → Nat} (h : SpF w b n c) {p : Nat} (hp : p < 6) : w.cell? ⟨b, 1 + p, none⟩ = some (.int .u64 (c p)) := by
  have e : p = 0 ∨ p = 1 ∨ p = 2 ∨ p = 3 ∨ p = 4 ∨ p = 5 := by omega
  rcases e with rfl | rfl | rfl | rfl | rfl | rfl <;> exact cell_of h rfl
theorem SpF.n {w : World} {b n : Nat} {c : Nat → Nat} (h : SpF w b n c) : w.cell? ⟨b, 0, none⟩ = some (.int .i64 n) := cell_of h rfl
theorem SpF.below {w w' : World} {b n : Nat} {c : Nat → Nat} (h : SpF w b n c) (hb : Below w.heap.size w w') : SpF w' b n c := (hb.block b (heap_lt h)).trans h
theorem SpF.drewN {w : World} {b n : Nat} {c : Nat → Nat} (h : SpF w b n c) (k : Nat) : SpF (w.drewN k) b n c := (heap_drewN _ _ _).trans h
theorem SpF.lt {w : World} {b n : Nat} {c : Nat → Nat} (h : SpF w b n c) : b < w.heap.size := heap_lt h
theorem SpF.free {w : World} {b n : Nat} {c : Nat → Nat} (h : SpF w b n c) (j : Nat) : w.frozen? ⟨b, j, none⟩ = false := free_of h j
theorem SpF.other {w : World} {b n k j : Nat} {c : Nat → Nat} {u : Value} (h : SpF w b n c) (hne : b ≠ k) : SpF (w.setCell ⟨k, j, none⟩ u) b n c := (heap_setCell_other _ _ _ _ hne).trans h
theorem SpF.set {w : World} {b n p v : Nat} {c c' : Nat → Nat} (h : SpF w b n c) (hp : p < 6) (hc : ∀ j, j < 6 → c' j = if j = p then v else c j) : SpF (w.setCell ⟨b, 1 + p, none⟩ (.int .u64 v)) b n c' := by
  have h0 := hc 0 (by omega)
  have h1 := hc 1 (by omega)
  have h2 := hc 2 (by omega)
  have h3 := hc 3 (by omega)
  have h4 := hc 4 (by omega)
  have h5 := hc 5 (by omega)
  have e : p = 0 ∨ p = 1 ∨ p = 2 ∨ p = 3 ∨ p = 4 ∨ p = 5 := by omega
  have hh := heap_setCell_same _ _ (1 + p) _ _ (Value.int .u64 v) h
  unfold SpF
  rw [hh]
  rcases e with rfl | rfl | rfl | rfl | rfl | rfl <;> simp_all
theorem SpF.cells {w : World} {b n : Nat} {c : Nat → Nat} (h : SpF w b n c) : w.cell? ⟨b, 0, none⟩ = some (.int .i64 n) ∧ w.cell? ⟨b, 1, none⟩ = some (.int .u64 (c 0)) ∧ w.cell? ⟨b, 2, none⟩ = some (.int .u64 (c 1)) ∧ w.cell? ⟨b, 3, none⟩ = some (.int .u64 (c 2)) ∧
    w.cell? ⟨b, 4, none⟩ = some (.int .u64 (c 3)) ∧ w.cell? ⟨b, 5, none⟩ = some (.int .u64 (c 4)) ∧ w.cell? ⟨b, 6, none⟩ = some (.int .u64 (c 5)) :=
  ⟨cell_of h rfl, cell_of h rfl, cell_of h rfl, cell_of h rfl, cell_of h rfl, cell_of h rfl, cell_of h rfl⟩
/-- .. and stored -/
theorem SpF.store {w : World} {b n n' : Nat} {c : Nat → Nat} (c' : Nat → Nat) (h : SpF w b n c) :
    SpF (((((((w.setCell ⟨b, 0, none⟩ (.int .i64 n')).setCell ⟨b, 1, none⟩ (.int .u64 (c' 0))).setCell ⟨b, 2, none⟩ (.int .u64 (c' 1))).setCell ⟨b, 3, none⟩ (.int .u64 (c' 2))).setCell ⟨b, 4, none⟩ (.int .u64 (c' 3))).setCell ⟨b, 5, none⟩ (.int .u64 (c' 4))).setCell ⟨b, 6, none⟩ (.int .u64 (c' 5))) b n' c' := by
  have h1 := heap_setCell_same _ _ 0 _ _ (Value.int .i64 n') h
  have h2 := heap_setCell_same _ _ 1 _ _ (Value.int .u64 (c' 0)) h1
  have h3 := heap_setCell_same _ _ 2 _ _ (Value.int .u64 (c' 1)) h2
  have h4 := heap_setCell_same _ _ 3 _ _ (Value.int .u64 (c' 2)) h3
  have h5 := heap_setCell_same _ _ 4 _ _ (Value.int .u64 (c' 3)) h4
  have h6 := heap_setCell_same _ _ 5 _ _ (Value.int .u64 (c' 4)) h5
  have h7 := heap_setCell_same _ _ 6 _ _ (Value.int .u64 (c' 5)) h6
  unfold SpF
  rw [h7]
  simp
theorem _root_.Go.RowKit.Below.set7 {w0 w : World} {b : Nat} (h : Below w0.heap.size w0 w) (hb : w0.heap.size ≤ b) (v0 v1 v2 v3 v4 v5 v6 : Value) :
    Below w0.heap.size w0 (((((((w.setCell ⟨b, 0, none⟩ v0).setCell ⟨b, 1, none⟩ v1).setCell ⟨b, 2, none⟩ v2).setCell ⟨b, 3, none⟩ v3).setCell ⟨b, 4, none⟩ v4).setCell ⟨b, 5, none⟩ v5).setCell ⟨b, 6, none⟩ v6) :=
  ((((((h.setCell (p := ⟨b, 0, none⟩) hb _).setCell (p := ⟨b, 1, none⟩) hb _).setCell (p := ⟨b, 2, none⟩) hb _).setCell (p := ⟨b, 3, none⟩) hb _).setCell (p := ⟨b, 4, none⟩) hb _).setCell (p := ⟨b, 5, none⟩) hb _).setCell (p := ⟨b, 6, none⟩) hb _
theorem SpF.other7 {w : World} {b n k : Nat} {c : Nat → Nat} (h : SpF w b n c) (hne : b ≠ k) (v0 v1 v2 v3 v4 v5 v6 : Value) :
    SpF (((((((w.setCell ⟨k, 0, none⟩ v0).setCell ⟨k, 1, none⟩ v1).setCell ⟨k, 2, none⟩ v2).setCell ⟨k, 3, none⟩ v3).setCell ⟨k, 4, none⟩ v4).setCell ⟨k, 5, none⟩ v5).setCell ⟨k, 6, none⟩ v6) b n c :=
  ((((((h.other hne).other hne).other hne).other hne).other hne).other hne).other hne
/-- .. and loaded -/
theorem SpF.load {w : World} {b n : Nat} {c : Nat → Nat} (h : SpF w b n c) : (loadVar 41 ⟨b, 0, none⟩).run Tryd.prog w = .ok (spF n c) w := by
  have c0 := cell_of h (j := 0) rfl
  have c1 := cell_of h (j := 1) rfl
  have c2 := cell_of h (j := 2) rfl
  have c3 := cell_of h (j := 3) rfl
  have c4 := cell_of h (j := 4) rfl
  have c5 := cell_of h (j := 5) rfl
  have c6 := cell_of h (j := 6) rfl
  unfold loadVar
  go_simp

/-- results, of which the first is a space in memory -/
theorem results_sp {P : Program} {fn : Func} {p : Tmp} {ty : TypeId} {tmps : Array Value} {w : World} {a : Addr} {v : Value} (h : fn.results = #[.cell p ty]) (hp : tmps.getD p undef = .pointer (some a)) (hl : (loadVar ty a).run P w = .ok v w) : (results fn tmps).run P w = .ok v w := by
  have hp' : tmps[p]?.getD undef = .pointer (some a) := by simpa using hp
  simp [results, h, hp', asAddr, hl]
theorem results_sp2 {P : Program} {fn : Func} {p q : Tmp} {ty : TypeId} {tmps : Array Value} {w : World} {a : Addr} {v : Value} (h : fn.results = #[.cell p ty, .tmp q]) (hp : tmps.getD p undef = .pointer (some a)) (hl : (loadVar ty a).run P w = .ok v w) : (results fn tmps).run P w = .ok (.tuple #[v, tmps.getD q undef]) w := by
  have hp' : tmps[p]?.getD undef = .pointer (some a) := by simpa using hp
  simp [results, h, hp', asAddr, hl]
theorem results_sp3 {P : Program} {fn : Func} {p q r : Tmp} {ty : TypeId} {tmps : Array Value} {w : World} {a : Addr} {v : Value} (h : fn.results = #[.cell p ty, .tmp q, .tmp r]) (hp : tmps.getD p undef = .pointer (some a)) (hl : (loadVar ty a).run P w = .ok v w) : (results fn tmps).run P w = .ok (.tuple #[v, tmps.getD q undef, tmps.getD r undef]) w := by
  have hp' : tmps[p]?.getD undef = .pointer (some a) := by simpa using hp
  simp [results, h, hp', asAddr, hl]

def withinB (n lo hi : Int) : Bool := decide (lo ≤ n) && decide (n ≤ hi)
theorem withinB_iff {n lo hi : Int} : withinB n lo hi = true ↔ lo ≤ n ∧ n ≤ hi := by simp [withinB]
theorem within_any (n lo hi : Int) (w : World) :
    Calls Tryd.prog 47 #[.int .i64 n, .int .i64 lo, .int .i64 hi] w fun e w' => e = .returned (.bool (withinB n lo hi)) ∧ w = w' := by
  by_cases h : lo ≤ n
  all_goals
    go_enter Tryd.func47, Tryd.ntmps47
    go_wp2
    go_ret
    exact ⟨ret_bool (by unfold withinB; simp; try omega), rfl⟩

theorem all_num (n : Nat) (hn : n ≤ 6) : IntKind.u64.wrap (IntKind.u64.wrap (2 ^ n) - 1) = (allN n : Nat) := by
  have h : n = 0 ∨ n = 1 ∨ n = 2 ∨ n = 3 ∨ n = 4 ∨ n = 5 ∨ n = 6 := by omega
  rcases h with rfl | rfl | rfl | rfl | rfl | rfl | rfl <;> decide
theorem all_any (cs : List Nat) (w : World) (hn : cs.length ≤ 6) :
    Calls Tryd.prog 19 #[spV cs] w fun e w' => e = .returned (.int .u64 (allN cs.length : Nat)) ∧ Below w.heap.size w w' := by
  have hz := Lib.hid (all_num cs.length hn)
  go_enter Tryd.func19, Tryd.ntmps19
  go_wp2_with fail
  go_ret
  exact ⟨ret_int hz.out, (Below.refl _ _).alloc (Nat.le_refl _) _⟩
end Go.Proofs.YtmagkcioplcidaeDoor

/- ply: areCodes, newCells. -/
set_option linter.unusedVariables false
set_option linter.unusedSimpArgs false
namespace Go.Proofs.YtmagkcioplcidaeDoor
open Go.RowKit

theorem codes1_any (n : Nat) (k : Int) (Bn : Nat) (w : World) (hn : n ≤ 6) (hB : w.heap[Bn]? = some (.cells #[.int .i64 n] 3)) :
    Calls Tryd.prog 51 #[.int .i64 k, .pointer (some ⟨Bn, 0, none⟩)] w fun e w' => e = .returned (.bool (!setB n k)) ∧ w = w' := by
  have c0 := cell_of hB (j := 0) rfl
  have e : n = 0 ∨ n = 1 ∨ n = 2 ∨ n = 3 ∨ n = 4 ∨ n = 5 ∨ n = 6 := by omega
  clear hB
  rcases e with rfl | rfl | rfl | rfl | rfl | rfl | rfl
  all_goals
    go_enter Tryd.func51, Tryd.ntmps51
    go_wp2_with fail
    refine (within_any _ _ _ _).mono ?_
    rintro e w' ⟨rfl, rfl⟩
    go_wp2_with fail
    go_ret
    refine ⟨ret_bool ?_, rfl⟩
    unfold withinB setB
    rw [Bool.eq_iff_iff]
    simp
    omega

/-- all numbers are codes of sets -/
def codesB (n : Nat) (l : List Int) : Bool := l.all fun k => setB n k
theorem codesB_iff {n : Nat} {l : List Int} : codesB n l = true ↔ ∀ k, k < l.length → setB n (gi l k) = true := by
  unfold codesB
  rw [List.all_eq_true]
  constructor
  · intro h k hk; exact h _ (gi_mem hk)
  · intro h x hx
    obtain ⟨k, hk, rfl⟩ := List.getElem_of_mem hx
    rw [← gi_lt hk]; exact h k hk

set_option maxRecDepth 100000 in
set_option maxHeartbeats 800000 in
theorem indexCodes_any (n : Nat) (v : Value) (l : List Int) (Bn : Nat) (w : World) (hn : n ≤ 6) (hr : Reads w v l) (hB : w.heap[Bn]? = some (.cells #[.int .i64 n] 3)) :
    Calls Tryd.prog 56 #[v, .func (.func 51) #[] #[.pointer (some ⟨Bn, 0, none⟩)]] w fun e w' => ∃ i : Int, e = .returned (.int .i64 i) ∧ decide (0 ≤ i) = (!codesB n l) ∧ w = w' := by
  obtain ⟨a, cap, rfl, h1, h2, hcell⟩ := hr.open
  have h3 : l.length ≤ 9223372036854775807 := by unfold maxLen at h2; omega
  have HB := Lib.hid hB
  obtain ⟨m, hm⟩ : ∃ m, l.length = m := ⟨_, rfl⟩
  rw [hm] at hcell h1 h3 ⊢
  have HM := Lib.hid hm
  clear hr h2 hB hm
  go_enter Tryd.func56, Tryd.ntmps56
  go_wp2_with fail
  go_loop [8] (fun i => ∃ k : Nat, k ≤ m ∧ i = .int .i64 k ∧ ∀ j, j < k → setB n (gi l j) = true) (fun i => m - (intOf i).toNat)
  case atStart => exact ⟨0, by omega, rfl, fun j hj => absurd hj (by omega)⟩
  case round =>
    obtain ⟨k, hk, rfl, hd⟩ := hrel
    have HD := Lib.hid hd
    clear hd
    by_cases hlt : k < m
    · obtain ⟨b, off, rfl, hb, hck⟩ := hcell k hlt
      have k0 : (0 : Int) ≤ (k : Int) := by omega
      have k1 : (k : Int) < (m : Int) := by omega
      clear hcell
      go_wp2_with fail
      refine (codes1_any n (gi l k) Bn _ hn HB.out).mono ?_
      rintro e w' ⟨rfl, rfl⟩
      rcases hs : setB n (gi l k) with _ | _
      · have HS := Lib.hid hs
        clear hs
        go_wp2_with fail
        go_ret
        refine ⟨_, rfl, ?_, rfl⟩
        rw [decide_eq_true (by omega)]
        rcases hc : codesB n l with _ | _
        · rfl
        · have := codesB_iff.1 hc k (by rw [HM.out]; exact hlt)
          rw [HS.out] at this; cases this
      · have HS := Lib.hid hs
        clear hs
        go_wp2_with fail
        go_round
        case rel => exact ⟨k + 1, by omega, by go_num, fun j hj => by
          by_cases e : j = k
          · subst e; exact HS.out
          · exact HD.out j (by omega)⟩
        case measure => simp [intOf]; omega
    · obtain rfl : k = m := by omega
      have HC : Hid (codesB n l = true) := Lib.hid (codesB_iff.2 fun j hj => HD.out j (by rw [← HM.out]; exact hj))
      clear hcell
      go_wp2_with fail
      go_ret
      exact ⟨_, rfl, by rw [HC.out]; rfl, rfl⟩
theorem containsCodes_any (n : Nat) (v : Value) (l : List Int) (Bn : Nat) (w : World) (hn : n ≤ 6) (hr : Reads w v l) (hB : w.heap[Bn]? = some (.cells #[.int .i64 n] 3)) :
    Calls Tryd.prog 50 #[v, .func (.func 51) #[] #[.pointer (some ⟨Bn, 0, none⟩)]] w fun e w' => e = .returned (.bool (!codesB n l)) ∧ w = w' := by
  obtain ⟨a, cap, rfl, _, _, _⟩ := hr.open
  go_enter Tryd.func50, Tryd.ntmps50
  go_wp2_with fail
  refine (indexCodes_any n _ l Bn _ hn hr hB).mono ?_
  rintro e w' ⟨i, rfl, hi, rfl⟩
  have HI := Lib.hid hi
  clear hi
  go_wp2_with fail
  go_ret
  exact ⟨ret_bool HI.out, rfl⟩
theorem areCodes_any (n : Nat) (v : Value) (l : List Int) (w : World) (hn : n ≤ 6) (hr : Reads w v l) :
    Calls Tryd.prog 38 #[.int .i64 n, v] w fun e w' => e = .returned (.bool (codesB n l)) ∧ Below w.heap.size w w' := by
  obtain ⟨a, cap, rfl, _, _, _⟩ := hr.open
  have HR := Lib.hid hr
  clear hr
  have hal : Below w.heap.size w (w.alloc (.cells #[.int .i64 n] 3)) := (Below.refl _ _).alloc (Nat.le_refl _) _
  go_enter Tryd.func38, Tryd.ntmps38
  go_wp2_with fail
  refine (containsCodes_any n _ l w.heap.size _ hn (HR.out.below hal) (heap_alloc_new _ _)).mono ?_
  rintro e w' ⟨rfl, rfl⟩
  go_wp2_with fail
  go_ret
  exact ⟨ret_bool (by cases codesB n l <;> rfl), hal⟩
end Go.Proofs.YtmagkcioplcidaeDoor

/- ply: newCells. -/
set_option linter.unusedVariables false
set_option linter.unusedSimpArgs false
namespace Go.Proofs.YtmagkcioplcidaeDoor
open Go.RowKit

def natsOf (l : List Int) : List Nat := l.map Int.toNat
theorem natsOf_len (l : List Int) : (natsOf l).length = l.length := by simp [natsOf]
/-- as many codes as there are points -/
def okB (l : List Int) : Bool := decide (1 ≤ l.length) && decide (l.length ≤ 6) && codesB l.length l
theorem setB_iff {n : Nat} {x : Int} : setB n x = true ↔ 0 ≤ x ∧ x < 2 ^ n := by unfold setB; rw [decide_eq_true_eq]
theorem ok_nats {l : List Int} (h : codesB l.length l = true) : l = ofNats (natsOf l) := by
  unfold ofNats natsOf
  rw [List.map_map]
  refine List.ext_getElem (by simp) fun i h1 h2 => ?_
  have := setB_iff.1 (codesB_iff.1 h i h1)
  rw [gi_lt h1] at this
  simp
  omega
theorem cell_nats (l : List Int) (p : Nat) : cell (natsOf l) p = (gi l p).toNat := by
  unfold cell natsOf gi
  rw [List.getD_eq_getElem?_getD, List.getD_eq_getElem?_getD, List.getElem?_map]
  cases l[p]? <;> rfl
theorem ok_codes {l : List Int} (h : okB l = true) : Codes (natsOf l) ∧ l = ofNats (natsOf l) := by
  unfold okB at h
  rw [Bool.and_eq_true, Bool.and_eq_true, decide_eq_true_eq, decide_eq_true_eq] at h
  refine ⟨⟨by rw [natsOf_len]; exact h.1.1, by rw [natsOf_len]; exact h.1.2, fun p => ?_⟩, ok_nats h.2⟩
  rw [cell_nats, natsOf_len]
  by_cases hp : p < l.length
  · have h2 := setB_iff.1 (codesB_iff.1 h.2 p hp)
    have : ((2 : Int) ^ l.length) = ((2 ^ l.length : Nat) : Int) := by push_cast; rfl
    omega
  · have : gi l p = 0 := by unfold gi; rw [List.getD_eq_getElem?_getD, List.getElem?_eq_none (by omega)]; rfl
    rw [this]; exact Nat.two_pow_pos _
def fillTo (cs : List Nat) (k j : Nat) : Nat := if j < k then cell cs j else 0
theorem fillTo_all {cs : List Nat} (j : Nat) : fillTo cs cs.length j = cell cs j := by
  unfold fillTo
  by_cases h : j < cs.length
  · rw [if_pos h]
  · rw [if_neg h, cell_far (by omega)]
theorem SpF.same {w : World} {b n : Nat} {c c' : Nat → Nat} (h : SpF w b n c) (hc : ∀ j, c j = c' j) : SpF w b n c' := by
  obtain rfl : c = c' := funext hc
  exact h

set_option maxRecDepth 100000 in
set_option maxHeartbeats 1600000 in
theorem newCells_ok (v : Value) (cs : List Nat) (w : World) (hr : Reads w v (ofNats cs)) (hc : Codes cs) :
    Calls Tryd.prog 35 #[v] w fun e w' => e = .returned (.tuple #[spV cs, .bool true]) ∧ Below w.heap.size w w' := by
  have hr0 := hr
  obtain ⟨a, cap, rfl, _, _, hcell⟩ := hr.open
  have hlen := ofNats_len cs
  rw [hlen] at hr0 hcell ⊢
  have hw : withinB (cs.length : Int) 1 6 = true := withinB_iff.2 ⟨by have := hc.1; omega, by have := hc.2.1; omega⟩
  have hco : codesB cs.length (ofNats cs) = true := codesB_iff.2 fun k hk => by
    rw [gi_nats, setB_iff]
    have := hc.2.2 k
    have e : ((2 : Int) ^ cs.length) = ((2 ^ cs.length : Nat) : Int) := by push_cast; rfl
    omega
  have hn6 := hc.2.1
  have hfa : ∀ j, fillTo cs cs.length j = cell cs j := fillTo_all
  have h64 := cell_64 hc
  clear hc hr
  generalize hn : cs.length = n at *
  have HCELL := Lib.hid hcell
  have HW := Lib.hid hw
  have HCO := Lib.hid hco
  have HR := Lib.hid hr0
  have H64 := Lib.hid h64
  have HFA := Lib.hid hfa
  have HN := Lib.hid hn
  have HLEN := Lib.hid hlen
  clear hw hco hr0 hfa h64 hn hlen hcell
  go_enter Tryd.func35, Tryd.ntmps35
  go_wp2_with fail
  refine (within_any _ _ _ _).mono ?_
  rintro e w1 ⟨rfl, rfl⟩
  have hb1 : Below w.heap.size w ((w.alloc (.cells #[.int .i64 0, .int .u64 0, .int .u64 0, .int .u64 0, .int .u64 0, .int .u64 0, .int .u64 0] 41)).alloc (.cells #[.int .i64 n, .int .u64 0, .int .u64 0, .int .u64 0, .int .u64 0, .int .u64 0, .int .u64 0] 41)) := ((Below.refl _ _).alloc (Nat.le_refl _) _).alloc (by simp) _
  have hr1 : SpF ((w.alloc (.cells #[.int .i64 0, .int .u64 0, .int .u64 0, .int .u64 0, .int .u64 0, .int .u64 0, .int .u64 0] 41)).alloc (.cells #[.int .i64 n, .int .u64 0, .int .u64 0, .int .u64 0, .int .u64 0, .int .u64 0, .int .u64 0] 41)) w.heap.size 0 (fun _ => 0) := alloc_old (heap_alloc_new _ _)
  have hr2 : SpF ((w.alloc (.cells #[.int .i64 0, .int .u64 0, .int .u64 0, .int .u64 0, .int .u64 0, .int .u64 0, .int .u64 0] 41)).alloc (.cells #[.int .i64 n, .int .u64 0, .int .u64 0, .int .u64 0, .int .u64 0, .int .u64 0, .int .u64 0] 41)) (w.heap.size + 1) n (fun _ => 0) := heap_alloc_at _ _ _ (by simp)
  generalize hW1 : World.alloc (World.alloc w _) _ = W1 at hb1 hr1 hr2 ⊢
  clear hW1
  have q1 := hr2.n
  rw [HW.out]
  go_wp2_with fail
  refine (areCodes_any n _ (ofNats cs) _ hn6 (HR.out.below hb1)).mono ?_
  rintro e w2 ⟨rfl, hb2⟩
  rw [HCO.out]
  have hr3 := hr1.below hb2
  have hr4 := hr2.below hb2
  have hb3 := hb1.trans (hb2.mono hb1.size)
  have hlt1 := hr1.lt
  clear hr1 hr2 hb1 q1 hb2
  go_wp2_with fail
  go_loopw [24] (fun i wr => ∃ k : Nat, k ≤ n ∧ i = .int .i64 k ∧ SpF wr w.heap.size 0 (fun _ => 0) ∧ SpF wr (w.heap.size + 1) n (fillTo cs k) ∧ Below w.heap.size w wr) (fun i _ => n - (intOf i).toNat)
  case atStart => exact ⟨0, by omega, rfl, hr3, hr4.same (fun j => by simp [fillTo]), hb3⟩
  case round =>
    obtain ⟨k, hk, rfl, s1, s2, hbr⟩ := hrel
    by_cases hlt : k < n
    · obtain ⟨b, off, rfl, hbl, hck⟩ := HCELL.out k hlt
      rw [gi_nats] at hck
      have hck2 := (hbr.cell (p := ⟨b, off + k, none⟩) hbl).trans hck
      have hc64 := H64.out k
      have k0 : (0 : Int) ≤ (k : Int) := by omega
      have k1 : (k : Int) < (n : Int) := by omega
      have k6 : (k : Int) < 6 := by omega
      have hwr := wrapU (cell cs k) (by omega)
      have fz := s2.free (1 + k)
      have q1 := s2.cell (p := k) (by omega)
      have s3 := SpF.set (c' := fillTo cs (k + 1)) s2 (p := k) (by omega) (v := cell cs k) (fun j hj => by
        unfold fillTo
        by_cases e : j = k
        · subst e; simp
        · by_cases h : j < k
          · simp [h, e, show j < k + 1 by omega]
          · simp [h, e, show ¬ j < k + 1 by omega])
      have s4 := s1.other (k := w.heap.size + 1) (j := 1 + k) (u := .int .u64 (cell cs k)) (by omega)
      have hbn := hbr.setCell (p := ⟨w.heap.size + 1, 1 + k, none⟩) (by simp) (.int .u64 (cell cs k))
      have S3 := Lib.hid s3
      have S4 := Lib.hid s4
      have HBN := Lib.hid hbn
      clear hck s3 s4 hbn
      go_wp2_with fail
      go_roundw
      case rel => exact ⟨k + 1, by omega, by go_num, S4.out, S3.out, HBN.out⟩
      case measure => simp [intOf]; omega
    · obtain rfl : k = n := by omega
      obtain ⟨d0, d1, d2, d3, d4, d5, d6⟩ := s2.cells
      obtain ⟨e0, e1, e2, e3, e4, e5, e6⟩ := s1.cells
      have fz := s1.free
      go_wp2_with fail
      have s5 := SpF.store (n' := k) (fillTo cs k) s1
      have hb5 := hbr.set7 (Nat.le_refl _) (.int .i64 k) (.int .u64 (fillTo cs k 0)) (.int .u64 (fillTo cs k 1)) (.int .u64 (fillTo cs k 2)) (.int .u64 (fillTo cs k 3)) (.int .u64 (fillTo cs k 4)) (.int .u64 (fillTo cs k 5))
      refine bodyPost_ret (results_sp2 rfl rfl s5.load) rfl ?_
      refine ⟨?_, hb5⟩
      rw [show fillTo cs k = cell cs from funext HFA.out, ← HN.out]
      rfl

set_option maxRecDepth 100000 in
set_option maxHeartbeats 1600000 in
theorem newCells_bad (v : Value) (l : List Int) (w : World) (hr : Reads w v l) (ho : okB l = false) :
    Calls Tryd.prog 35 #[v] w fun e w' => e = .returned (.tuple #[spF l.length (fun _ => 0), .bool false]) ∧ Below w.heap.size w w' := by
  have hr0 := hr
  obtain ⟨a, cap, rfl, _, _, _⟩ := hr.open
  have HR := Lib.hid hr0
  unfold okB at ho
  clear hr hr0
  obtain ⟨n, hn⟩ : ∃ n, l.length = n := ⟨_, rfl⟩
  rw [hn] at ho HR ⊢
  clear hn
  have hb1 : Below w.heap.size w ((w.alloc (.cells #[.int .i64 0, .int .u64 0, .int .u64 0, .int .u64 0, .int .u64 0, .int .u64 0, .int .u64 0] 41)).alloc (.cells #[.int .i64 n, .int .u64 0, .int .u64 0, .int .u64 0, .int .u64 0, .int .u64 0, .int .u64 0] 41)) := ((Below.refl _ _).alloc (Nat.le_refl _) _).alloc (by simp) _
  have hr1 : SpF ((w.alloc (.cells #[.int .i64 0, .int .u64 0, .int .u64 0, .int .u64 0, .int .u64 0, .int .u64 0, .int .u64 0] 41)).alloc (.cells #[.int .i64 n, .int .u64 0, .int .u64 0, .int .u64 0, .int .u64 0, .int .u64 0, .int .u64 0] 41)) w.heap.size 0 (fun _ => 0) := alloc_old (heap_alloc_new _ _)
  have hr2 : SpF ((w.alloc (.cells #[.int .i64 0, .int .u64 0, .int .u64 0, .int .u64 0, .int .u64 0, .int .u64 0, .int .u64 0] 41)).alloc (.cells #[.int .i64 n, .int .u64 0, .int .u64 0, .int .u64 0, .int .u64 0, .int .u64 0, .int .u64 0] 41)) (w.heap.size + 1) n (fun _ => 0) := heap_alloc_at _ _ _ (by simp)
  by_cases h16 : 1 ≤ n ∧ n ≤ 6
  · have hw : withinB (n : Int) 1 6 = true := withinB_iff.2 ⟨by omega, by omega⟩
    have hco : codesB n l = false := by
      rw [decide_eq_true h16.1, decide_eq_true h16.2] at ho
      simpa using ho
    have HW := Lib.hid hw
    have HCO := Lib.hid hco
    have hn6 := h16.2
    clear hw hco ho
    go_enter Tryd.func35, Tryd.ntmps35
    go_wp2_with fail
    refine (within_any _ _ _ _).mono ?_
    rintro e w1 ⟨rfl, rfl⟩
    generalize hW1 : World.alloc (World.alloc w _) _ = W1 at hb1 hr1 hr2 ⊢
    clear hW1
    have q1 := hr2.n
    rw [HW.out]
    go_wp2_with fail
    refine (areCodes_any n _ l _ hn6 (HR.out.below hb1)).mono ?_
    rintro e w2 ⟨rfl, hb2⟩
    rw [HCO.out]
    have hr3 := hr1.below hb2
    have hr4 := hr2.below hb2
    have hb3 := hb1.trans (hb2.mono hb1.size)
    clear hr1 hr2 hb1 q1 hb2
    obtain ⟨d0, d1, d2, d3, d4, d5, d6⟩ := hr4.cells
    obtain ⟨e0, e1, e2, e3, e4, e5, e6⟩ := hr3.cells
    have fz := hr3.free
    go_wp2_with fail
    have s5 := SpF.store (n' := n) (fun _ => 0) hr3
    have hb5 := hb3.set7 (Nat.le_refl _) (.int .i64 n) (.int .u64 0) (.int .u64 0) (.int .u64 0) (.int .u64 0) (.int .u64 0) (.int .u64 0)
    refine bodyPost_ret (results_sp2 rfl rfl s5.load) rfl ?_
    exact ⟨rfl, hb5⟩
  · have hw : withinB (n : Int) 1 6 = false := by
      rcases hb : withinB (n : Int) 1 6 with _ | _
      · rfl
      · have := withinB_iff.1 hb; omega
    have HW := Lib.hid hw
    clear hw ho h16
    go_enter Tryd.func35, Tryd.ntmps35
    go_wp2_with fail
    refine (within_any _ _ _ _).mono ?_
    rintro e w1 ⟨rfl, rfl⟩
    generalize hW1 : World.alloc (World.alloc w _) _ = W1 at hb1 hr1 hr2 ⊢
    clear hW1
    rw [HW.out]
    obtain ⟨d0, d1, d2, d3, d4, d5, d6⟩ := hr2.cells
    obtain ⟨e0, e1, e2, e3, e4, e5, e6⟩ := hr1.cells
    have fz := hr1.free
    go_wp2_with fail
    have s5 := SpF.store (n' := n) (fun _ => 0) hr1
    have hb5 := hb1.set7 (Nat.le_refl _) (.int .i64 n) (.int .u64 0) (.int .u64 0) (.int .u64 0) (.int .u64 0) (.int .u64 0) (.int .u64 0)
    refine bodyPost_ret (results_sp2 rfl rfl s5.load) rfl ?_
    exact ⟨rfl, hb5⟩
end Go.Proofs.YtmagkcioplcidaeDoor

/- A function that ranges over iterators in a loop leaves with many marks. -/
set_option linter.unusedVariables false
set_option linter.unusedSimpArgs false
namespace Go.Proofs.YtmagkcioplcidaeDoor
open Go.RowKit

/-- marks of range statements, from block B up to block U, the later ones first -/
def Marks (B : Nat) : Nat → List Deferred → World → Prop
  | _, [], _ => True
  | U, d :: ds, w => ∃ D, B ≤ D ∧ D < U ∧ d = { target := .collected D, args := #[] } ∧ w.heap[D]? = some (.deferred (some [])) ∧ Marks B D ds w
theorem Marks.mono {B : Nat} : ∀ {U U' : Nat} {ds : List Deferred} {w : World}, Marks B U ds w → U ≤ U' → Marks B U' ds w
  | _, _, [], _, _, _ => trivial
  | _, _, _ :: _, _, ⟨D, h1, h2, h3⟩, h => ⟨D, h1, Nat.lt_of_lt_of_le h2 h, h3⟩
theorem Marks.keep {B : Nat} {w w' : World} : ∀ {U : Nat} {ds : List Deferred}, (∀ k, B ≤ k → k < U → w.heap[k]? = some (.deferred (some [])) → w'.heap[k]? = some (.deferred (some []))) → Marks B U ds w → Marks B U ds w'
  | _, [], _, _ => trivial
  | _, _ :: _, hk, ⟨D, h1, h2, h3, h4, h5⟩ => ⟨D, h1, h2, h3, hk D h1 h2 h4, Marks.keep (fun k hB hU => hk k hB (Nat.lt_trans hU h2)) h5⟩
theorem Marks.keepsFrom {B U : Nat} {ds : List Deferred} {w w' : World} (h : Marks B U ds w) (hk : KeepsFrom B w w') : Marks B U ds w' := h.keep fun k hB _ hd => hk.same k _ hB hd rfl
theorem Marks.below {B U : Nat} {ds : List Deferred} {w w' : World} (h : Marks B U ds w) (hb : Below w.heap.size w w') : Marks B U ds w' := h.keep fun k _ _ hd => (hb.block k (heap_lt hd)).trans hd
theorem Marks.grown {B U : Nat} {ds : List Deferred} {w w' : World} {row : Option Nat} (h : Marks B U ds w) (hg : w.grownBy w' row) (hr : ∀ r, row = some r → U ≤ r) : Marks B U ds w' := h.keep fun k _ hU hd => (hg.block k (heap_lt hd) (fun e => by have := hr k e.symm; omega)).trans hd
theorem Marks.setCell {B U : Nat} {ds : List Deferred} {w : World} (h : Marks B U ds w) (b j : Nat) (v : Value) : Marks B U ds (w.setCell ⟨b, j, none⟩ v) := h.keepsFrom ((KeepsOthers.setCell _ _ _).from _)
theorem Marks.add {B U : Nat} {ds : List Deferred} {w : World} (h : Marks B U ds w) {D : Nat} (hB : B ≤ D) (hU : U ≤ D) (hD : w.heap[D]? = some (.deferred (some []))) : Marks B (D + 1) ({ target := .collected D, args := #[] } :: ds) w :=
  ⟨D, hB, Nat.lt_succ_self D, rfl, hD, h.mono hU⟩

/-- the marks are shut, cells are as they were -/
structure MShut (B : Nat) (w w' : World) : Prop where
  below : Below B w w'
  keep : ∀ (k : Nat) (cs : Array Value) (t : TypeId) (fr : Nat × Nat), w.heap[k]? = some (Obj.cells cs t fr) → w'.heap[k]? = some (Obj.cells cs t fr)
theorem MShut.refl (B : Nat) (w : World) : MShut B w w := ⟨Below.refl _ _, fun _ _ _ _ h => h⟩
theorem leave_marks {B : Nat} {P : Program} {F : Fence} {n : Nat} {fn : Func} {tmps : Array Value} {R : Ending → World → Prop} : ∀ (ds : List Deferred) (U : Nat) (w : World), Marks B U ds w →
    (∀ w', MShut B w w' → ∃ v, (results fn tmps).run P w' = .ok v w' ∧ R (.returned v) w') → LeavesInM F n P fn tmps R ds .returning w
  | [], U, w, _, h => by
    obtain ⟨v, h1, h2⟩ := h w (MShut.refl _ _)
    exact ⟨v, h1, h2⟩
  | d :: ds, U, w, ⟨D, h1, h2, h3, h4, h5⟩, h => by
    subst h3
    refine ⟨by simp, .inl ⟨_, _, rfl, run_takeDeferred h4, ?_⟩⟩
    have hb : Below B w (w.putObj D (.deferred none)) := ⟨rfl, rfl, rfl, by simp [World.putObj], fun k hk => putObj_other rfl (by omega)⟩
    refine leave_marks ds D _ (h5.keep fun k _ hlt hk => putObj_other hk (by omega)) fun w' hs => h w' ⟨hb.trans hs.below, fun k cs t fr hk => hs.keep k cs t fr (putObj_other hk (fun e => ?_))⟩
    subst e
    rw [h4] at hk
    cases hk
end Go.Proofs.YtmagkcioplcidaeDoor

/- Regions that draw their order, in the round of a range statement too: reads, and one writing operation behind all of them. -/
set_option linter.unusedVariables false
set_option linter.unusedSimpArgs false
namespace Go.Proofs.YtmagkcioplcidaeDoor
open Go

section
variable {F : Fence} {n : Nat} {P : Program} {ops : Array Oper} {md : Region.Mode} {C : World → Prop}

def noDefers (l : List Oper) : Bool := l.all fun o => match o.op with | .defer _ => false | _ => true
theorem noDefers_spec {ops : Array Oper} (h : noDefers ops.toList = true) {i : Nat} {o : Oper} (ho : ops[i]? = some o) (c : Call) : o.op ≠ .defer c := by
  intro e
  unfold noDefers at h
  rw [List.all_eq_true] at h
  have := h o (by
    have := Array.mem_of_getElem? ho
    simpa using this)
  rw [e] at this; cases this
theorem wpIn_of_quietR {o : Oper} {a : Act} {K : Act → Prop} {K' : Act → World → Prop} {Q' : Exit → Act → World → Prop} {w : World} (hnd : ∀ c, o.op ≠ .defer c) (hw : C w) (h : ∀ a w', C w' → K a → K' a w')
    (ha : o.askedIn F P a C) (hh : o.quietIn F n P a C K) : o.wpIn F n P a w K' Q' := by
  obtain ⟨v, h1, h2⟩ := hh
  have h3 := h1 w hw
  unfold Oper.quietAtIn at h3
  unfold Oper.wpIn
  refine ⟨ha w hw, ?_⟩
  rw [Oper.semAt_eq _ _ _ hnd]
  generalize (execOp a.eval o).run P w = r at *
  cases r with
  | ok x w' =>
    cases x <;> simp only [Oper.quietUponIn] at h3 <;> simp only [Oper.uponIn]
    case value u =>
      obtain ⟨e1, e2⟩ := h3
      rw [e1, e2]
      exact h _ _ hw h2
    case skip =>
      obtain ⟨e1, e2⟩ := h3
      rw [e1, ← e2]
      exact h _ _ hw h2
    case enter f args =>
      obtain ⟨e1, hd, hc⟩ := h3
      rw [e1]
      exact ⟨hd, hc.mono fun e w'' ⟨he, hw''⟩ => by subst he; exact h _ _ hw'' h2⟩
  | halt x w' => simp only [Oper.quietUponIn] at h3
theorem wpOpIn_of_qOpInR {i : Nat} {a : Act} {K : Act → Prop} {K' : Act → World → Prop} {Q' : Exit → Act → World → Prop} {w : World} (hnd : noDefers ops.toList = true) (hC : C w) (h : ∀ a w', C w' → K a → K' a w')
    (hh : qOpIn F n P ops C i K a) : wpOpIn F n P ops Q' i K' a w := by
  unfold qOpIn at hh
  unfold wpOpIn
  split
  · rename_i ho; simp only [ho] at hh; exact h _ _ hC hh
  · rename_i o ho
    simp only [ho] at hh
    obtain ⟨ha, hh⟩ := hh
    split
    · rename_i hw; simp only [hw, if_true] at hh; exact wpIn_of_quietR (fun c => noDefers_spec hnd ho c) hC h ha hh
    · rename_i hw; simp only [hw] at hh; exact ⟨ha w hC, h _ _ hC hh⟩
theorem wpAnyIn_of_quietR {Q : Act → Prop} {Q' : Exit → Act → World → Prop} (hnd : noDefers ops.toList = true) (hQ : ∀ a w, C w → Q a → Q' .normal a w) : ∀ (fuel : Nat) (listed : Array Bool) (a : Act) (w : World), C w →
    wpAnyQIn F n P md ops C Q fuel listed a → wpAnyIn F n P md ops Q' fuel listed a w
  | 0, _, _, _, hw, h => ⟨h.1, hQ _ _ hw h.2⟩
  | fuel + 1, _, _, _, hw, h => ⟨fun h0 => hQ _ _ hw (h.1 h0), fun i hi => wpOpIn_of_qOpInR hnd hw (fun a' w' hw' => wpAnyIn_of_quietR hnd hQ fuel _ a' w' hw') (h.2 i hi)⟩
/-- reads alone -/
theorem region_quiet_round {id : Nat} {Q : Exit → Act → World → Prop} {a : Act} {w : World} {l : List Oper} (hnd : noDefers l = true) (hm : P.follows .mixedOrders = true) (hB : Region.lexB .any l.toArray = true)
    (h : wpQuietIn F n P l.toArray (fun w' => ∃ n, w' = w.drewN n) (fun a' => ∀ w', (∃ n, w' = w.drewN n) → Q .normal a' w') l a) : (Code.region id l.toArray true).wpIn F n P Q a w := by
  simp only [Region.lexB, Bool.and_eq_true] at hB
  refine wpIn_region_any hm (wpAnyIn_of_quietR (C := fun w' => ∃ n, w' = w.drewN n) (Q := fun a' => ∀ w', (∃ n, w' = w.drewN n) → Q .normal a' w') (by simpa using hnd) (fun _ w' hw' h => h w' hw') _ _ _ _ ⟨1, rfl⟩ ?_)
  have := wpAnyQIn_lex (F := F) (n := n) (C := fun w' => ∃ n, w' = w.drewN n) (md := .any) hB.1 l 0 (Array.replicate l.length false) a (by simp) (by simpa using hB.2) h
  simpa using this

/-! ### one operation behind all others -/
theorem lexR {Q : Act → Prop} (hs : Region.noSelect ops = true) : ∀ (l : List Oper) (k : Nat) (listed : Array Bool) (a : Act), (∀ j, j < l.length → l[j]? = ops[k + j]?) →
    Region.lexFrom md ops l.length k listed = true → wpQuietIn F n P ops C Q l a → wpAnyQIn F n P md ops C Q l.length listed a
  | [], _, _, _, _, hB, h => ⟨by simpa [Region.lexFrom] using hB, h⟩
  | o :: l, k, listed, a, hl, hB, h => by
    have h0 : ops[k]? = some o := by simpa using (hl 0 (by simp)).symm
    simp only [List.length_cons, Region.lexFrom, Bool.and_eq_true] at hB
    obtain ⟨⟨hr, hf⟩, hB'⟩ := hB
    have hst : qOpIn F n P ops C k (wpQuietIn F n P ops C Q l) a := by unfold qOpIn; simp only [h0]; exact h
    obtain ⟨v, hy, hK⟩ := yieldsQuiet_of_qOpIn h0 hst
    exact wpAnyQIn_first h0 (Region.noSelect_spec hs) l.length listed a (Region.free_spec h0 hf) (by simpa using hr) hy
      (lexR hs l (k + 1) _ _ (fun j hj => by have := hl (j + 1) (by simpa using hj); simpa [Nat.add_assoc, Nat.add_comm 1 j] using this) hB' hK)

/-- what an operation waits for -/
def depsOf (md : Region.Mode) (ops : Array Oper) (i : Nat) : List Nat := match ops[i]? with | some o => (o.after.toList.filter (Region.binds md)).map (·.on) | none => []
def covers (md : Region.Mode) (ops : Array Oper) : Nat → List Nat → List Nat
  | 0, S => S
  | k + 1, S => covers md ops k (S ++ S.flatMap (depsOf md ops)).eraseDups
/-- each operation but the last waits for earlier ones alone, and the last one for all -/
def lastB (md : Region.Mode) (ops : Array Oper) (m : Nat) : Bool :=
  (List.range m).all (fun i => match ops[i]? with | some o => o.after.all fun e => !Region.binds md e || decide (e.on < i) | none => false) &&
  (match ops[m]? with | some o => (List.range m).all (fun i => (covers md ops 8 (depsOf md ops m)).contains i) && o.after.all (fun e => !Region.binds md e || decide (e.on < m)) | none => false)
/-- what is listed has what it waits for listed -/
def ClosedL (md : Region.Mode) (ops : Array Oper) (L : Array Bool) (m : Nat) : Prop := ∀ i, i < m → L.getD i true = true → ∀ j ∈ depsOf md ops i, j < m ∧ L.getD j true = true
theorem covers_listed {md : Region.Mode} {ops : Array Oper} {L : Array Bool} {m : Nat} (hc : ClosedL md ops L m) : ∀ (k : Nat) (S : List Nat), (∀ i ∈ S, i < m ∧ L.getD i true = true) → ∀ i ∈ covers md ops k S, i < m ∧ L.getD i true = true
  | 0, S, h, i, hi => h i hi
  | k + 1, S, h, i, hi => covers_listed hc k _ (fun j hj => by
    rw [List.mem_eraseDups] at hj
    rcases List.mem_append.1 hj with hj | hj
    · exact h j hj
    · obtain ⟨a, ha, hja⟩ := List.mem_flatMap.1 hj
      exact hc a (h a ha).1 (h a ha).2 j hja) i hi
theorem depsOf_mem {md : Region.Mode} {ops : Array Oper} {i j : Nat} {o : Oper} (ho : ops[i]? = some o) : j ∈ depsOf md ops i ↔ ∃ e ∈ o.after, Region.binds md e = true ∧ e.on = j := by
  unfold depsOf
  rw [ho]
  simp only [List.mem_map, List.mem_filter, Array.mem_toList_iff]
  constructor
  · rintro ⟨e, ⟨h1, h2⟩, h3⟩; exact ⟨e, h1, h2, h3⟩
  · rintro ⟨e, h1, h2, h3⟩; exact ⟨e, ⟨h1, h2⟩, h3⟩

theorem getD_set (L : Array Bool) (i j : Nat) (d b : Bool) (hi : i < L.size) : (L.setIfInBounds i b).getD j d = if j = i then b else L.getD j d := by
  by_cases h : j = i
  · subst h; simp [hi]
  · rw [if_neg h]; simp [Array.getElem?_setIfInBounds, show ¬ i = j from fun e => h e.symm]

def openN (L : Array Bool) : Nat → Nat
  | 0 => 0
  | m + 1 => openN L m + if L.getD m true = false then 1 else 0
theorem openN_zero {L : Array Bool} : ∀ {m : Nat}, openN L m = 0 → ∀ i, i < m → L.getD i true = true
  | 0, _, i, hi => by omega
  | m + 1, h, i, hi => by
    unfold openN at h
    by_cases e : i = m
    · subst e
      rcases hb : L.getD i true with _ | _
      · rw [hb] at h; simp at h
      · rfl
    · exact openN_zero (m := m) (by omega) i (by omega)
theorem openN_pos {L : Array Bool} : ∀ {m : Nat}, openN L m ≠ 0 → ∃ i, i < m ∧ L.getD i true = false ∧ ∀ j, j < i → L.getD j true = true
  | 0, h => absurd rfl h
  | m + 1, h => by
    by_cases h0 : openN L m = 0
    · unfold openN at h
      rw [h0] at h
      refine ⟨m, by omega, ?_, fun j hj => openN_zero h0 j hj⟩
      rcases hb : L.getD m true with _ | _
      · rfl
      · rw [hb] at h; simp at h
    · obtain ⟨i, h1, h2⟩ := openN_pos h0
      exact ⟨i, by omega, h2⟩
theorem openN_set {L : Array Bool} {i : Nat} (hi : i < L.size) (hf : L.getD i true = false) : ∀ {m : Nat}, (i < m → openN (L.setIfInBounds i true) m + 1 = openN L m) ∧ (m ≤ i → openN (L.setIfInBounds i true) m = openN L m)
  | 0 => ⟨fun h => by omega, fun _ => rfl⟩
  | m + 1 => by
    obtain ⟨h1, h2⟩ := openN_set hi hf (m := m)
    constructor
    · intro h
      unfold openN
      rw [getD_set _ _ _ _ _ hi]
      by_cases e : m = i
      · subst e
        rw [if_pos rfl, h2 (Nat.le_refl _), hf]; simp
      · rw [if_neg e]
        have := h1 (by omega)
        omega
    · intro h
      have e : ¬ m = i := by omega
      unfold openN
      rw [getD_set _ _ _ _ _ hi, if_neg e, h2 (by omega)]
theorem getD_true {L : Array Bool} {i : Nat} (hi : i < L.size) (h : L.getD i true = true) : L.getD i false = true := by
  simpa [hi] using h
theorem ClosedL.set {md : Region.Mode} {ops : Array Oper} {L : Array Bool} {m i : Nat} {o : Oper} (h : ClosedL md ops L m) (ho : ops[i]? = some o) (hi : i < L.size) (him : i < m) (hd : ∀ e ∈ o.after, Region.binds md e = true → e.on < m ∧ L.getD e.on true = true) : ClosedL md ops (L.setIfInBounds i true) m := by
  intro k hk hl j hj
  have fin : ∀ j, j < m ∧ L.getD j true = true → j < m ∧ (L.setIfInBounds i true).getD j true = true := fun j h1 => ⟨h1.1, by
    rw [getD_set _ _ _ _ _ hi]; split
    · rfl
    · exact h1.2⟩
  by_cases e : k = i
  · subst e
    obtain ⟨e, he, hb, rfl⟩ := (depsOf_mem ho).1 hj
    exact fin _ (hd e he hb)
  · rw [getD_set _ _ _ _ _ hi, if_neg e] at hl
    exact fin _ (h k hk hl j hj)
theorem any_then {Q : Exit → Act → World → Prop} {m : Nat} {ol : Oper} (hnd : noDefers ops.toList = true) (hl : ops[m]? = some ol) (hm : ops.size = m + 1) (hB : lastB md ops m = true) :
    ∀ (fuel : Nat) (L : Array Bool) (a : Act) (w : World), C w → L.size = m + 1 → ClosedL md ops L m → L.getD m true = false → openN L m = fuel →
      wpAnyQIn F n P md ops C (fun a' => ∀ w', C w' → wpOpIn F n P ops Q m (fun a w => Q .normal a w) a' w') fuel (L.setIfInBounds m true) a → wpAnyIn F n P md ops Q (fuel + 1) L a w := by
  unfold lastB at hB
  rw [Bool.and_eq_true] at hB
  obtain ⟨hB1, hB2⟩ := hB
  rw [hl] at hB2
  simp only [Bool.and_eq_true] at hB2
  obtain ⟨hB2, hB3⟩ := hB2
  have early : ∀ i o, i < m → ops[i]? = some o → ∀ e ∈ o.after, Region.binds md e = true → e.on < i := by
    intro i o hi ho e he hb
    have := List.all_eq_true.1 hB1 i (List.mem_range.2 hi)
    rw [ho] at this
    have := Array.all_eq_true_iff_forall_mem.1 this e he
    rw [hb] at this
    simpa using this
  have late : ∀ e ∈ ol.after, Region.binds md e = true → e.on < m := by
    intro e he hb
    have := Array.all_eq_true_iff_forall_mem.1 hB3 e he
    rw [hb] at this
    simpa using this
  have waits : ∀ L : Array Bool, ClosedL md ops L m → (∀ e ∈ ol.after, Region.binds md e = true → L.getD e.on true = true) → ∀ i, i < m → L.getD i true = true := by
    intro L hcl hd i hi
    have h1 := List.all_eq_true.1 hB2 i (List.mem_range.2 hi)
    refine (covers_listed hcl 8 (depsOf md ops m) (fun j hj => ?_) i (by simpa using h1)).2
    obtain ⟨e, he, hb, rfl⟩ := (depsOf_mem hl).1 hj
    exact ⟨late e he hb, hd e he hb⟩
  intro fuel
  induction fuel with
  | zero =>
    intro L a w hw hs hcl hlm ho h
    have hall := openN_zero ho
    refine ⟨fun h0 => ?_, fun i hi => ?_⟩
    · have : m ∈ Region.ready md ops L := mem_ready.2 ⟨hlm, ol, hl, fun e he hb => getD_true (by have := late e he hb; omega) (hall _ (late e he hb))⟩
      rw [h0] at this; cases this
    · have him : i = m := by
        obtain ⟨h1, o, ho', _⟩ := mem_ready.1 hi
        have hlt := (Array.getElem?_eq_some_iff.1 ho').1
        apply Classical.byContradiction
        intro hne
        rw [hall i (by omega)] at h1; cases h1
      subst him
      refine wpOpIn_mono (fun a' w' hq => ?_) (h.2 w hw)
      refine ⟨?_, hq⟩
      apply List.eq_nil_iff_forall_not_mem.2
      intro j hj
      obtain ⟨h1, o, ho', _⟩ := mem_ready.1 hj
      have hlt := (Array.getElem?_eq_some_iff.1 ho').1
      rw [getD_set _ _ _ _ _ (by omega)] at h1
      by_cases e : j = i
      · rw [if_pos e] at h1; cases h1
      · rw [if_neg e, hall j (by omega)] at h1; cases h1
  | succ fuel ih =>
    intro L a w hw hs hcl hlm ho h
    obtain ⟨i0, g1, g2, g3⟩ := openN_pos (L := L) (m := m) (by omega)
    refine ⟨fun h0 => ?_, fun i hi => ?_⟩
    · obtain ⟨o0, ho0⟩ : ∃ o, ops[i0]? = some o := ⟨_, Array.getElem?_eq_getElem (by omega)⟩
      have : i0 ∈ Region.ready md ops L := mem_ready.2 ⟨g2, o0, ho0, fun e he hb => by
        have := early i0 o0 g1 ho0 e he hb
        exact getD_true (by omega) (g3 _ this)⟩
      rw [h0] at this; cases this
    · obtain ⟨h1, o, ho', hdep⟩ := mem_ready.1 hi
      have hlt := (Array.getElem?_eq_some_iff.1 ho').1
      by_cases him : i = m
      · subst him
        rw [hl] at ho'
        cases ho'
        have := waits L hcl (fun e he hb => by
          have h3 := hdep e he hb
          have h4 := late e he hb
          have hsz : e.on < L.size := by omega
          simpa [hsz] using h3) i0 g1
        rw [g2] at this; cases this
      · have hi2 : i ∈ Region.ready md ops (L.setIfInBounds m true) := by
          refine mem_ready.2 ⟨?_, o, ho', fun e he hb => ?_⟩
          · rw [getD_set _ _ _ _ _ (by omega), if_neg him]; exact h1
          · rw [getD_set _ _ _ _ _ (by omega)]
            by_cases e2 : e.on = m
            · rw [if_pos e2]
            · rw [if_neg e2]; exact hdep e he hb
        refine wpOpIn_of_qOpInR hnd hw (fun a' w' hw' hq => ?_) (h.2 i hi2)
        rw [Array.setIfInBounds_comm _ _ (fun e => him e.symm)] at hq
        have hcnt := (openN_set (L := L) (i := i) (by omega) h1 (m := m)).1 (by omega)
        exact ih (L.setIfInBounds i true) a' w' hw' (by simpa using hs) (hcl.set ho' (by omega) (by omega) (fun e he hb => by
          have h3 := hdep e he hb
          have h4 := early i o (by omega) ho' e he hb
          have hsz : e.on < L.size := by omega
          exact ⟨by omega, by simpa [hsz] using h3⟩)) (by rw [getD_set _ _ _ _ _ (by omega), if_neg (fun e => him e.symm)]; exact hlm) (by omega) hq
/-- reads, and one operation that may write, behind them -/
theorem region_then_round {id : Nat} {Q : Exit → Act → World → Prop} {a : Act} {w : World} {l : List Oper} {o : Oper} (hnd : noDefers (l ++ [o]) = true) (hm : P.follows .mixedOrders = true) (hs : Region.noSelect (l ++ [o]).toArray = true)
    (hB : Region.lexFrom .any (l ++ [o]).toArray l.length 0 ((Array.replicate (l.length + 1) false).setIfInBounds l.length true) = true) (hL : lastB .any (l ++ [o]).toArray l.length = true)
    (hO : openN (Array.replicate (l.length + 1) false) l.length = l.length)
    (h : wpQuietIn F n P (l ++ [o]).toArray (fun w' => ∃ n, w' = w.drewN n) (fun a' => ∀ w', (∃ n, w' = w.drewN n) → wpOpIn F n P (l ++ [o]).toArray Q l.length (fun a w => Q .normal a w) a' w') l a) :
    (Code.region id (l ++ [o]).toArray true).wpIn F n P Q a w := by
  refine wpIn_region_any hm ?_
  have h1 := lexR (F := F) (n := n) (P := P) (C := fun w' => ∃ n, w' = w.drewN n) (md := .any) hs l 0 ((Array.replicate (l.length + 1) false).setIfInBounds l.length true) a (fun j hj => by
    have : (l ++ [o])[j]? = l[j]? := List.getElem?_append_left hj
    simpa using this.symm) hB h
  have h2 := any_then (F := F) (n := n) (P := P) (C := fun w' => ∃ n, w' = w.drewN n) (md := .any) (m := l.length) (ol := o) (Q := Q) (by simpa using hnd) (by simp) (by simp) hL l.length (Array.replicate (l.length + 1) false) a { w with drawn := w.drawn + 1 } ⟨1, rfl⟩ (by simp) (fun i hi hl => by
    have : (Array.replicate (l.length + 1) false).getD i true = false := by simp [show i < l.length + 1 by omega]
    rw [this] at hl; cases hl) (by simp) hO h1
  simpa using h2
theorem wpQuietIn_mono {Q Q' : Act → Prop} (h : ∀ a, Q a → Q' a) : ∀ (l : List Oper) (a : Act), wpQuietIn F n P ops C Q l a → wpQuietIn F n P ops C Q' l a
  | [], a, hh => h a hh
  | o :: l, a, hh => by
    refine ⟨hh.1, ?_⟩
    have h2 := hh.2
    by_cases hw : Region.wanted o (yielded ops a.tmps) = true
    · rw [if_pos hw] at h2 ⊢
      exact Oper.quietIn_mono (wpQuietIn_mono h l) h2
    · rw [if_neg hw] at h2 ⊢
      exact wpQuietIn_mono h l _ h2
/-- the same at a region that is written out -/
theorem region_then {id : Nat} {Q : Exit → Act → World → Prop} {a : Act} {w : World} {l : List Oper} {o : Oper} (m : Nat) (ho : l[m]? = some o) (hlen : l.length = m + 1) (hg : o.guard = none) (hnd : noDefers l = true) (hm : P.follows .mixedOrders = true) (hs : Region.noSelect l.toArray = true)
    (hB : Region.lexFrom .any l.toArray m 0 ((Array.replicate (m + 1) false).setIfInBounds m true) = true) (hL : lastB .any l.toArray m = true)
    (hO : openN (Array.replicate (m + 1) false) m = m)
    (h : wpQuietIn F n P l.toArray (fun w' => ∃ n, w' = w.drewN n) (fun a' => ∀ w', (∃ n, w' = w.drewN n) → o.wpIn F n P a' w' (fun a w => Q .normal a w) Q) l.dropLast a) :
    (Code.region id l.toArray true).wpIn F n P Q a w := by
  have hd : l.dropLast.length = m := by simp [hlen]
  have hl : l = l.dropLast ++ [o] := by
    have hne : l ≠ [] := by intro e; rw [e] at hlen; simp at hlen
    have h1 := (List.dropLast_concat_getLast hne).symm
    have h2 : l.getLast hne = o := by
      rw [List.getLast_eq_getElem]
      have h3 : l[m]? = some (l[l.length - 1]'(by omega)) := by rw [List.getElem?_eq_getElem (by omega)]; congr 2; omega
      rw [h3] at ho; exact Option.some.inj ho
    rwa [h2] at h1
  have hw : ∀ ys, Region.wanted o ys = true := fun ys => by simp [Region.wanted, hg]
  generalize l.dropLast = k at *
  subst hl
  subst hd
  refine region_then_round hnd hm hs hB hL hO ?_
  have e : (k ++ [o]).toArray[k.length]? = some o := by simp
  refine wpQuietIn_mono (fun a' ha w' hw' => ?_) k a h
  unfold wpOpIn
  rw [e]
  simp only [hw, if_true]
  exact ha w' hw'
/-- over whatever class of worlds -/
theorem region_thenC {id : Nat} {Q : Exit → Act → World → Prop} {a : Act} {w : World} {l : List Oper} {o : Oper} (m : Nat) (ho : l[m]? = some o) (hlen : l.length = m + 1) (hg : o.guard = none) (hnd : noDefers l = true) (hm : P.follows .mixedOrders = true) (hs : Region.noSelect l.toArray = true)
    (hB : Region.lexFrom .any l.toArray m 0 ((Array.replicate (m + 1) false).setIfInBounds m true) = true) (hL : lastB .any l.toArray m = true)
    (hO : openN (Array.replicate (m + 1) false) m = m) (hC : C w.drew)
    (h : wpQuietIn F n P l.toArray C (fun a' => ∀ w', C w' → o.wpIn F n P a' w' (fun a w => Q .normal a w) Q) l.dropLast a) :
    (Code.region id l.toArray true).wpIn F n P Q a w := by
  have hd : l.dropLast.length = m := by simp [hlen]
  have hl : l = l.dropLast ++ [o] := by
    have hne : l ≠ [] := by intro e; rw [e] at hlen; simp at hlen
    have h1 := (List.dropLast_concat_getLast hne).symm
    have h2 : l.getLast hne = o := by
      rw [List.getLast_eq_getElem]
      have h3 : l[m]? = some (l[l.length - 1]'(by omega)) := by rw [List.getElem?_eq_getElem (by omega)]; congr 2; omega
      rw [h3] at ho; exact Option.some.inj ho
    rwa [h2] at h1
  have hw : ∀ ys, Region.wanted o ys = true := fun ys => by simp [Region.wanted, hg]
  generalize l.dropLast = k at *
  subst hl
  subst hd
  refine wpIn_region_any hm ?_
  have e : (k ++ [o]).toArray[k.length]? = some o := by simp
  have h0 : wpQuietIn F n P (k ++ [o]).toArray C (fun a' => ∀ w', C w' → wpOpIn F n P (k ++ [o]).toArray Q k.length (fun a w => Q .normal a w) a' w') k a := by
    refine wpQuietIn_mono (fun a' ha w' hw' => ?_) k a h
    unfold wpOpIn
    rw [e]
    simp only [hw, if_true]
    exact ha w' hw'
  have h1 := lexR (F := F) (n := n) (P := P) (C := C) (md := .any) hs k 0 ((Array.replicate (k.length + 1) false).setIfInBounds k.length true) a (fun j hj => by
    have : (k ++ [o])[j]? = k[j]? := List.getElem?_append_left hj
    simpa using this.symm) hB h0
  have h2 := any_then (F := F) (n := n) (P := P) (C := C) (md := .any) (m := k.length) (ol := o) (Q := Q) (by simpa using hnd) (by simp) (by simp) hL k.length (Array.replicate (k.length + 1) false) a { w with drawn := w.drawn + 1 } hC (by simp) (fun i hi hl => by
    have : (Array.replicate (k.length + 1) false).getD i true = false := by simp [show i < k.length + 1 by omega]
    rw [this] at hl; cases hl) (by simp) hO h1
  simpa using h2
theorem quiet_value {ops : Array Oper} {Q : Act → Prop} {o : Oper} {rest : List Oper} {a : Act} (v : Value) (hg : o.guard = none) (ha : ∀ w, o.about P w a.eval = none) (h : ∀ w', C w' → (execOp a.eval o).run P w' = .ok (.value v) w') (hr : wpQuietIn F n P ops C Q rest (a.put o.dst v)) : wpQuietIn F n P ops C Q (o :: rest) a := by
  refine ⟨fun w _ f hf => (by rw [ha w] at hf; cases hf), ?_⟩
  rw [if_pos (by simp [Region.wanted, hg])]
  exact ⟨v, fun w' hw' => by unfold Oper.quietAtIn; rw [h w' hw']; exact ⟨rfl, rfl⟩, hr⟩
theorem quiet_call {ops : Array Oper} {Q : Act → Prop} {o : Oper} {rest : List Oper} {a : Act} (v : Value) (f : Nat) (args : Array Value) (hg : o.guard = none) (hF : ∀ f, F.fn f) (hd : F.depth.isSome = true → 1 ≤ n) (h : ∀ w', C w' → (execOp a.eval o).run P w' = .ok (.enter f args) w') (hc : ∀ w', C w' → CallsIn F (n - 1) P f args w' (fun e w'' => e = .returned v ∧ C w''))
    (hr : wpQuietIn F n P ops C Q rest (a.put o.dst v)) : wpQuietIn F n P ops C Q (o :: rest) a := by
  refine ⟨fun w _ f _ => hF f, ?_⟩
  rw [if_pos (by simp [Region.wanted, hg])]
  exact ⟨v, fun w' hw' => by unfold Oper.quietAtIn; rw [h w' hw']; exact ⟨rfl, hd, hc w' hw'⟩, hr⟩
end
end Go.Proofs.YtmagkcioplcidaeDoor

/- ply: inside. -/
set_option linter.unusedVariables false
set_option linter.unusedSimpArgs false
namespace Go.Proofs.YtmagkcioplcidaeDoor
open Go.RowKit Go.Shelf
attribute [local go_sem] Oper.semAt_some

/-- the points so far whose cells lie in the set -/
def insTo (cs : List Nat) (s : Nat) (pre : List Nat) : Nat := pre.foldl (fun o p => if subB (cell cs p) s = true then o ||| 2 ^ p else o) 0
theorem insTo_snoc (cs : List Nat) (s : Nat) (pre : List Nat) (p : Nat) : insTo cs s (pre ++ [p]) = if subB (cell cs p) s = true then insTo cs s pre ||| 2 ^ p else insTo cs s pre := by
  unfold insTo; rw [List.foldl_append]; rfl
theorem insTo_bit (cs : List Nat) (s i : Nat) : ∀ (pre : List Nat) (o : Nat), (pre.foldl (fun o p => if subB (cell cs p) s = true then o ||| 2 ^ p else o) o).testBit i = true ↔ o.testBit i = true ∨ (i ∈ pre ∧ subB (cell cs i) s = true)
  | [], o => by simp
  | p :: pre, o => by
    rw [List.foldl_cons, insTo_bit cs s i pre]
    by_cases h : subB (cell cs p) s = true
    · rw [if_pos h, Nat.testBit_or, Bool.or_eq_true, Nat.testBit_two_pow, decide_eq_true_eq]
      constructor
      · rintro ((h1 | rfl) | ⟨h1, h2⟩)
        · exact .inl h1
        · exact .inr ⟨by simp, h⟩
        · exact .inr ⟨by simp [h1], h2⟩
      · rintro (h1 | ⟨h1, h2⟩)
        · exact .inl (.inl h1)
        · rcases List.mem_cons.1 h1 with rfl | h1
          · exact .inl (.inr rfl)
          · exact .inr ⟨h1, h2⟩
    · rw [if_neg h]
      constructor
      · rintro (h1 | ⟨h1, h2⟩)
        · exact .inl h1
        · exact .inr ⟨by simp [h1], h2⟩
      · rintro (h1 | ⟨h1, h2⟩)
        · exact .inl h1
        · rcases List.mem_cons.1 h1 with rfl | h1
          · exact absurd h2 h
          · exact .inr ⟨h1, h2⟩
theorem insTo_all {cs : List Nat} {s : Nat} (hc : Codes cs) (hs : s < 2 ^ cs.length) : insTo cs s (bitsOf s) = insideN cs s := by
  have h64 : s < 64 := Nat.lt_of_lt_of_le hs (Nat.pow_le_pow_right (n := 2) (by omega) hc.2.1)
  refine Nat.eq_of_testBit_eq fun i => ?_
  rw [Bool.eq_iff_iff]
  unfold insTo
  rw [insTo_bit, Nat.zero_testBit, bitsOf_mem h64]
  by_cases hi : i < cs.length
  · rw [inside_bit hi, Bool.and_eq_true]; simp
  · rw [bit_big (inside_lt cs s) (by omega), bit_big hs (by omega)]; simp
theorem insTo_lt {cs : List Nat} {s : Nat} {pre : List Nat} (h : ∀ p ∈ pre, p < 6) : insTo cs s pre < 64 := by
  refine Nat.lt_pow_two_of_testBit (n := 6) _ fun i hi => ?_
  rcases hb : (insTo cs s pre).testBit i with _ | _
  · rfl
  · have := (insTo_bit cs s i pre 0).1 hb
    rw [Nat.zero_testBit] at this
    rcases this with h1 | h1
    · cases h1
    · have := h i h1.1; omega
theorem pre_lt {pre : List Nat} {s : Nat} (h : pre <+: bitsOf s) : ∀ p ∈ pre, p < 6 := fun p hp => bitsOf_lt (h.subset hp)
theorem pre_bit {pre : List Nat} {x s : Nat} (hs : s < 64) (h : pre ++ [x] <+: bitsOf s) : s.testBit x = true ∧ x < 6 := by
  have hx : x ∈ bitsOf s := h.subset (by simp)
  exact ⟨(bitsOf_mem hs).1 hx, bitsOf_lt hx⟩
theorem shl_num (p : Nat) (hp : p < 6) : IntKind.u64.wrap ((2 : Int) ^ p) = ((2 ^ p : Nat) : Int) := by
  have h : p = 0 ∨ p = 1 ∨ p = 2 ∨ p = 3 ∨ p = 4 ∨ p = 5 := by omega
  rcases h with rfl | rfl | rfl | rfl | rfl | rfl <;> decide

set_option maxRecDepth 100000 in
set_option maxHeartbeats 1600000 in
theorem inside_any (cs : List Nat) (s : Nat) (w : World) (hc : Codes cs) (hs : s < 2 ^ cs.length) (hT : Tab w) :
    Calls Tryd.prog 20 #[spV cs, .int .u64 s] w fun e w' => e = .returned (.int .u64 (insideN cs s : Nat)) ∧ Below w.heap.size w w' := by
  have h64 : s < 64 := Nat.lt_of_lt_of_le hs (Nat.pow_le_pow_right (n := 2) (by omega) hc.2.1)
  have hall := insTo_all hc hs
  have hc64 := cell_64 hc
  have HALL := Lib.hid hall
  have HC := Lib.hid hc64
  have HS := Lib.hid hs
  clear hall hc64 hs
  generalize hN : insideN cs s = N at *
  clear hN hc
  refine (callsIn_wide (n := 20)).1 ?_
  refine callsIn_of_wp_marks Tryd.func20 rfl trivial ?_ rfl
  simp only [Tryd.ntmps20, List.size_toArray, List.length_cons, List.length_nil, Nat.reduceAdd, Nat.reduceSub, Array.replicate_succ, Array.replicate_zero, List.push_toArray, List.append_toArray, List.nil_append, List.cons_append]
  gi_wp2_with fail
  refine ⟨trivial, (callsIn_wide.2 (points_any s _)).mono ?_⟩
  rintro e w1 ⟨rfl, rfl⟩
  gi_wp2_with fail
  generalize hW0 : World.alloc (World.alloc (World.alloc (World.alloc w _) _) _) _ = W0
  have hsz : W0.heap.size = w.heap.size + 4 := by rw [← hW0]; simp
  have hbW : Below w.heap.size w W0 := by rw [← hW0]; exact ((((Below.refl _ _).alloc (Nat.le_refl _) _).alloc (by simp) _).alloc (by simp <;> omega) _).alloc (by simp <;> omega) _
  have hb0 : SpF W0 w.heap.size cs.length (cell cs) := by rw [← hW0]; exact alloc_old (alloc_old (alloc_old (heap_alloc_new _ _)))
  have hb1 : W0.heap[w.heap.size + 1]? = some (.cells #[.int .u64 s] 38) := by rw [← hW0]; exact alloc_old (alloc_old (heap_alloc_at _ _ _ (by simp)))
  have hb2 : W0.heap[w.heap.size + 2]? = some (.cells #[.int .u64 0] 38) := by rw [← hW0]; exact alloc_old (heap_alloc_at _ _ _ (by simp))
  have hb3 : W0.heap[w.heap.size + 3]? = some (.cells #[.int .u64 s] 38) := by rw [← hW0]; exact heap_alloc_at _ _ _ (by simp)
  clear hW0
  refine range_pts (gf := 48) (Bs := w.heap.size + 3) (s := s) rfl (enters_of Tryd.func48 (by kernel_rfl) rfl)
    (points_given s (w.heap.size + 3) h64 19 (by omega) W0 (by omega)) hb3 rfl
    (fun pre W => SpF W w.heap.size cs.length (cell cs) ∧ W.heap[w.heap.size + 1]? = some (.cells #[.int .u64 s] 38) ∧ W.heap[w.heap.size + 2]? = some (.cells #[.int .u64 (insTo cs s pre : Nat)] 38) ∧ Below w.heap.size w W)
    (fun c pre W => False) ?a1 ?hI (fun c s W W' row h _ _ => h) ?hIB (fun pre W h => hT.below h.2.2.2) ⟨hb0, hb1, hb2, hbW⟩ ?assign ?body ?done ?stop
  case assign =>
    intro l x W K hK
    gi_wp2
    exact hK
  case hI =>
    rintro s W W' row ⟨h1, h2, h3, h4⟩ hg hr
    exact ⟨own_block hg hr (by omega) h1, own_block hg hr (by omega) h2, own_block hg hr (by omega) h3, h4.grown hg h4.size (fun k e => by have := (hr k e).1; omega)⟩
  case hIB =>
    rintro s W v ⟨h1, h2, h3, h4⟩
    exact ⟨h1.other (by omega), set_other h2 (by omega), set_other h3 (by omega), h4.setCell (p := ⟨w.heap.size + 3, 0, none⟩) (by simp) _⟩
  case body =>
    rintro l pre x W hl ⟨h1, h2, h3, h4⟩ hpx
    obtain ⟨hsx, hx6⟩ := pre_bit h64 hpx
    have hpre := pre_lt (s := s) (pre := pre) ((List.prefix_append _ _).trans hpx)
    have c1 := h1.cell hx6
    have c2 := cell_of h2 (j := 0) rfl
    have hcx := HC.out x
    have hand := u64_andNot (cell cs x) s (by omega) (by omega)
    have hsn := insTo_snoc cs s pre x
    have hil := insTo_lt (cs := cs) (s := s) hpre
    have x0 : (0 : Int) ≤ (x : Int) := by omega
    have x1 : (x : Int) < 6 := by omega
    by_cases hsub : subB (cell cs x) s = true
    · have hz : (((diff (cell cs x) s : Nat) : Int) == 0) = true := by
        unfold subB at hsub
        rw [decide_eq_true_eq] at hsub
        rw [hsub]; rfl
      rw [if_pos hsub] at hsn
      have hz2 : ((diff (cell cs x) s : Nat) : Int) = 0 := by simpa using hz
      have hsh := shl_num x hx6
      have hor : bits .or .u64 (insTo cs s pre : Int) ((2 : Int) ^ x) = ((insTo cs s pre ||| 2 ^ x : Nat) : Int) := by
        have := u64_or (insTo cs s pre) (2 ^ x) (by omega) (by have := pow_lt64 hx6; omega)
        rwa [show (((2 ^ x : Nat) : Int)) = (2 : Int) ^ x by push_cast; rfl] at this
      have HSN := Lib.hid hsn
      have H1 := Lib.hid h1
      have H2 := Lib.hid h2
      have H3 := Lib.hid h3
      have H4 := Lib.hid h4
      have c3 := cell_of h3 (j := 0) rfl
      have f3 := free_of h3 0
      clear hsn h1 h2 h3 h4 hsub hpx hpre hsx
      gi_wp2_with fail
      refine region_quiet_round (by kernel_rfl) (by kernel_rfl) (by kernel_rfl) ?_
      repeat (gi_big_quiet_step (fail))
      refine wpQuietIn_nil ?_
      intro _ hw'
      obtain ⟨nq, hw''⟩ := hw'
      subst hw''
      gi_wp2_with fail
      refine region_then 4 rfl rfl rfl (by kernel_rfl) (by kernel_rfl) (by kernel_rfl) (by kernel_rfl) (by kernel_rfl) (by kernel_rfl) ?_
      dsimp only [List.dropLast]
      repeat (gi_big_quiet_step (fail))
      refine wpQuietIn_nil ?_
      intro _ hw'
      obtain ⟨nq, hw''⟩ := hw'
      subst hw''
      go_simp
      refine ⟨(keeps_drewN _ W _).trans (keeps_set _ _ _ _ _), ?_, ?_, ?_, ?_, ?_⟩
      · exact SameAt.setCell (heap_drewN _ _ _) (by omega) _
      · exact SpF.other (SpF.drewN H1.out _) (by omega)
      · exact set_other ((heap_drewN _ _ _).trans H2.out) (by omega)
      · rw [HSN.out]; exact set_same ((heap_drewN _ _ _).trans H3.out)
      · exact (below_to H4.out H4.out.size (below_drewN _ _)).setCell (p := ⟨w.heap.size + 1 + 1, 0, none⟩) (by simp <;> omega) _
    · have hz : (((diff (cell cs x) s : Nat) : Int) == 0) = false := by
        rcases hb : (((diff (cell cs x) s : Nat) : Int) == 0) with _ | _
        · rfl
        · exfalso; apply hsub
          unfold subB
          rw [decide_eq_true_eq]
          simpa using hb
      rw [if_neg hsub] at hsn
      have hz2 : ¬ ((diff (cell cs x) s : Nat) : Int) = 0 := by simpa using hz
      have HSN := Lib.hid hsn
      have H1 := Lib.hid h1
      have H2 := Lib.hid h2
      have H3 := Lib.hid h3
      have H4 := Lib.hid h4
      clear hsn h1 h2 h3 h4 hsub hpx hpre hsx
      gi_wp2_with fail
      refine region_quiet_round (by kernel_rfl) (by kernel_rfl) (by kernel_rfl) ?_
      repeat (gi_big_quiet_step (fail))
      refine wpQuietIn_nil ?_
      intro _ hw'
      obtain ⟨nq, hw''⟩ := hw'
      subst hw''
      gi_wp2_with fail
      refine ⟨keeps_drewN _ W _, heap_drewN _ _ _, SpF.drewN H1.out _, (heap_drewN _ _ _).trans H2.out, ?_, below_to H4.out H4.out.size (below_drewN _ _)⟩
      rw [HSN.out]; exact (heap_drewN _ _ _).trans H3.out
  case done =>
    rintro D W hD ⟨h1, h2, h3, h4⟩ hK
    rw [HALL.out] at h3
    have c3 := cell_of h3 (j := 0) rfl
    gi_wp2_with fail
    refine ⟨by simp, .inl ⟨_, _, rfl, run_takeDeferred hK, ?_⟩⟩
    refine ⟨_, results_tmp rfl _ _ _, rfl, ?_⟩
    exact h4.trans (belowK_b (w := w) (Nat.le_refl _) _ D _ _ (by omega) hK rfl rfl)
  case stop =>
    rintro D c pre W hD hpre h
    exact h.elim
end Go.Proofs.YtmagkcioplcidaeDoor

/- ply: isSpace. -/
set_option linter.unusedVariables false
set_option linter.unusedSimpArgs false
namespace Go.Proofs.YtmagkcioplcidaeDoor
open Go.RowKit Go.Shelf
attribute [local go_sem] Oper.semAt_some

set_option maxRecDepth 100000 in
set_option maxHeartbeats 1600000 in
theorem isSpace_any (cs : List Nat) (w : World) (hc : Codes cs) (hT : Tab w) :
    Calls Tryd.prog 36 #[spV cs] w fun e w' => e = .returned (.bool (spaceB cs)) ∧ Below w.heap.size w w' := by
  have hc64 := cell_64 hc
  have HC := Lib.hid hc64
  have HCN := Lib.hid hc.2.2
  have hn6 := hc.2.1
  clear hc64 hc
  refine (callsIn_wide (n := 20)).1 ?_
  refine callsIn_of_wp_marks Tryd.func36 rfl trivial ?_ rfl
  simp only [Tryd.ntmps36, List.size_toArray, List.length_cons, List.length_nil, Nat.reduceAdd, Nat.reduceSub, Array.replicate_succ, Array.replicate_zero, List.push_toArray, List.append_toArray, List.nil_append, List.cons_append]
  gi_wp2_with fail
  generalize hW0 : World.alloc (World.alloc w _) _ = W0
  have hsz : W0.heap.size = w.heap.size + 2 := by rw [← hW0]; simp
  have hbW : Below w.heap.size w W0 := by rw [← hW0]; exact ((Below.refl _ _).alloc (Nat.le_refl _) _).alloc (by simp) _
  have hb0 : SpF W0 w.heap.size cs.length (cell cs) := by rw [← hW0]; exact alloc_old (heap_alloc_new _ _)
  have hb1 : W0.heap[w.heap.size + 1]? = some (.cells #[.bool false] 4) := by rw [← hW0]; exact heap_alloc_at _ _ _ (by simp)
  clear hW0
  refine wpIn_loop (fun a' w' => ∃ (k : Nat) (u3 u4 u8 u9 u10 u11 u12 u13 u14 u15 u16 u17 u18 u19 u20 u21 u22 u23 u24 u25 u26 u27 u28 u29 u30 u31 u32 u33 : Value) (ds : List Deferred), k ≤ cs.length ∧ (∀ p, p < k → (cell cs p).testBit p = true ∧ ∀ q, q < cs.length → (cell cs p).testBit q = true → subB (cell cs q) (cell cs p) = true) ∧ SpF w' w.heap.size cs.length (cell cs) ∧ w'.heap[w.heap.size + 1]? = some (.cells #[.bool false] 4) ∧ Below w.heap.size w w' ∧ Marks w.heap.size w'.heap.size ds w' ∧ a' = { tmps := #[spV cs, .pointer (some ⟨w.heap.size, 0, none⟩), .pointer (some ⟨w.heap.size + 1, 0, none⟩), u3, u4, .pointer (some ⟨w.heap.size, 0, none⟩), .int .i64 cs.length, .int .i64 k, u8, u9, u10, u11, u12, u13, u14, u15, u16, u17, u18, u19, u20, u21, u22, u23, u24, u25, u26, u27, u28, u29, u30, u31, u32, u33], defers := ds }) (fun a' _ => cs.length - (intOf (a'.tmps.getD 7 undef)).toNat) ⟨0, undef, undef, undef, undef, undef, undef, undef, undef, undef, undef, undef, undef, undef, undef, undef, undef, undef, undef, undef, undef, undef, undef, undef, undef, undef, undef, undef, undef, [], by omega, fun p hp => absurd hp (by omega), hb0, hb1, hbW, trivial, rfl⟩ ?_
  rintro a' W ⟨k, u3, u4, u8, u9, u10, u11, u12, u13, u14, u15, u16, u17, u18, u19, u20, u21, u22, u23, u24, u25, u26, u27, u28, u29, u30, u31, u32, u33, ds, hk, hok, s0, s1, hbw, hmk, rfl⟩
  have HOK := Lib.hid hok
  clear hok
  by_cases hlt : k < cs.length
  · have k0 : (0 : Int) ≤ (k : Int) := by omega
    have k1 : (k : Int) < (cs.length : Int) := by omega
    have k6 : (k : Int) < 6 := by omega
    have hc1 := HC.out k
    have hal : Below W.heap.size W (W.alloc (.cells #[.int .i64 k] 3)) := (Below.refl _ _).alloc (Nat.le_refl _) _
    have hp0 := heap_alloc_new W (.cells #[.int .i64 k] 3)
    have s0' := s0.below hal
    have s1' := (hal.block _ (heap_lt s1)).trans s1
    have hbw' := below_to hbw hbw.size hal
    have hmk' := hmk.below hal
    have hsz1 : (W.alloc (.cells #[.int .i64 k] 3)).heap.size = W.heap.size + 1 := by simp
    have hbs : w.heap.size + 2 ≤ W.heap.size := by have := heap_lt s1; omega
    clear s0 s1 hbw hmk hal
    gi_wp2_with fail
    generalize hW1 : World.alloc W _ = W1 at *
    generalize hB : W.heap.size = B at *
    clear hW1 hB
    have HBS := Lib.hid hbs
    have q1 := s0'.cell (p := k) (by omega)
    have c0 := cell_of hp0 (j := 0) rfl
    rcases hbit : (cell cs k).testBit k with _ | _
    · have hh : ∀ w0, Calls Tryd.prog 25 #[.int .u64 (cell cs k), .int .i64 k] w0 fun e w' => e = .returned (.bool false) ∧ w0 = w' := fun w0 => by
        have := has_any (cell cs k) k w0 hc1 (by omega)
        rwa [hbit] at this
      have hhas := Lib.hid hh
      clear hh
      have hno : spaceB cs = false := by
        rcases hs : spaceB cs with _ | _
        · rfl
        · have := (space_iff.1 hs k hlt).1; rw [hbit] at this; cases this
      have HNO := Lib.hid hno
      have S1 := Lib.hid s1'
      have HBW := Lib.hid hbw'
      have HMK := Lib.hid hmk'
      have c1 := cell_of s1' (j := 0) rfl
      have f1 := free_of s1' 0
      clear hbit hno hbw' hmk' s1'
      refine wpIn_wide.2 ?_
      go_quiet ((go_at_call 25; exact (hhas.out _).mono (fun e w' h => ⟨h.1, _, h.2.symm⟩)))
      gi_wp2_with fail
      refine leave_marks ds B _ ((HMK.out.below (below_drewN _ _)).setCell _ _ _) fun w' hs => ?_
      have hs1 := (heap_drewN W1 nq (w.heap.size + 1)).trans S1.out
      refine ⟨_, results_cell1 (g := w.heap.size + 1) rfl rfl (by kernel_rfl) (hs.keep _ _ _ _ (set_same hs1)), by rw [HNO.out], ?_⟩
      exact ((below_to HBW.out HBW.out.size (below_drewN _ _)).setCell (p := ⟨w.heap.size + 1, 0, none⟩) (by simp) _).trans hs.below
    · have hh : ∀ w0, Calls Tryd.prog 25 #[.int .u64 (cell cs k), .int .i64 k] w0 fun e w' => e = .returned (.bool true) ∧ w0 = w' := fun w0 => by
        have := has_any (cell cs k) k w0 hc1 (by omega)
        rwa [hbit] at this
      have hhas := Lib.hid hh
      have HBIT := Lib.hid hbit
      clear hh hbit
      refine wpIn_wide.2 ?_
      go_quiet ((go_at_call 25; exact (hhas.out _).mono (fun e w' h => ⟨h.1, _, h.2.symm⟩)))
      gi_wp2_with fail
      have s0n := s0'.drewN nq
      have s1n := (heap_drewN W1 nq (w.heap.size + 1)).trans s1'
      have p0n := (heap_drewN W1 nq B).trans hp0
      have hbn := below_to hbw' hbw'.size (below_drewN W1 nq)
      have hmn := hmk'.below (below_drewN W1 nq)
      have hszn := size_drewN W1 nq
      rw [hsz1] at hszn
      generalize hW2 : W1.drewN nq = W2 at *
      clear hW2 s0' s1' hp0 hbw' hmk' q1 c0
      have q2 := s0n.cell (p := k) (by omega)
      have c2 := cell_of p0n (j := 0) rfl
      gi_wp2_with fail
      refine ⟨trivial, (callsIn_wide.2 (points_any (cell cs k) _)).mono ?_⟩
      rintro e w1 ⟨rfl, rfl⟩
      have hal : Below W2.heap.size W2 (W2.alloc (.cells #[.int .u64 (cell cs k)] 38)) := (Below.refl _ _).alloc (Nat.le_refl _) _
      have hBs := heap_alloc_new W2 (.cells #[.int .u64 (cell cs k)] 38)
      have s0p := s0n.below hal
      have s1p := (hal.block _ (heap_lt s1n)).trans s1n
      have p0p := (hal.block _ (heap_lt p0n)).trans p0n
      have hbp := below_to hbn hbn.size hal
      have hmp := hmn.below hal
      have hsz3 : (W2.alloc (.cells #[.int .u64 (cell cs k)] 38)).heap.size = B + 2 := by simp [hszn]
      rw [hszn] at hBs ⊢
      gi_wp2_with fail
      generalize hW3 : World.alloc W2 _ = W3 at *
      clear hW3 s0n s1n p0n hbn hmn hal hszn q2 c2
      have hbs := HBS.out
      refine range_pts (gf := 48) (Bs := B + 1) (s := cell cs k) rfl (enters_of Tryd.func48 (by kernel_rfl) rfl)
        (points_given (cell cs k) (B + 1) hc1 19 (by omega) W3 (by omega)) hBs rfl
        (fun pre W => SpF W w.heap.size cs.length (cell cs) ∧ W.heap[w.heap.size + 1]? = some (.cells #[.bool false] 4) ∧ W.heap[B]? = some (.cells #[.int .i64 k] 3) ∧ Below w.heap.size w W ∧ Marks w.heap.size B ds W ∧ ∀ q ∈ pre, subB (cell cs q) (cell cs k) = true)
        (fun c pre W => c = .ret ∧ W.heap[w.heap.size + 1]? = some (.cells #[.bool false] 4) ∧ Below w.heap.size w W ∧ Marks w.heap.size B ds W ∧ spaceB cs = false) ?a1 ?hI ?hIx ?hIB (fun pre W h => hT.below h.2.2.2.1) ⟨s0p, s1p, p0p, hbp, hmp, by simp⟩ ?assign ?body ?done ?stop
      case assign =>
        intro l x W K hK
        gi_wp2
        exact hK
      case hI =>
        rintro s W W' row ⟨h1, h2, h3, h4, h5, h6⟩ hg hr
        exact ⟨own_block hg hr (by omega) h1, own_block hg hr (by omega) h2, own_block hg hr (by omega) h3, h4.grown hg h4.size (fun k e => by have := (hr k e).1; omega), h5.grown hg (fun k e => by have := (hr k e).1; omega), h6⟩
      case hIx =>
        rintro c s W W' row ⟨h1, h2, h4, h5, h6⟩ hg hr
        exact ⟨h1, own_block hg hr (by omega) h2, h4.grown hg h4.size (fun k e => by have := (hr k e).1; omega), h5.grown hg (fun k e => by have := (hr k e).1; omega), h6⟩
      case hIB =>
        rintro s W v ⟨h1, h2, h3, h4, h5, h6⟩
        exact ⟨h1.other (by omega), set_other h2 (by omega), set_other h3 (by omega), h4.setCell (p := ⟨B + 1, 0, none⟩) (by simp; omega) _, h5.setCell _ _ _, h6⟩
      case body =>
        rintro l pre x W hl ⟨h1, h2, h3, h4, h5, h6⟩ hpx
        obtain ⟨hxb, hx6⟩ := pre_bit hc1 hpx
        have q1 := h1.cell hx6
        have q2 := h1.cell (p := k) (by omega)
        have c2 := cell_of h3 (j := 0) rfl
        have c1 := cell_of h2 (j := 0) rfl
        have f1 := free_of h2 0
        have hcx := HC.out x
        have hand := u64_andNot (cell cs x) (cell cs k) (by omega) (by omega)
        have x0 : (0 : Int) ≤ (x : Int) := by omega
        have x1 : (x : Int) < 6 := by omega
        have hxn : x < cs.length := set_lt (HCN.out k) hxb
        by_cases hsub : subB (cell cs x) (cell cs k) = true
        · have hz2 : ((diff (cell cs x) (cell cs k) : Nat) : Int) = 0 := by
            unfold subB at hsub
            rw [decide_eq_true_eq] at hsub
            rw [hsub]; rfl
          have H1 := Lib.hid h1
          have H2 := Lib.hid h2
          have H3 := Lib.hid h3
          have H4 := Lib.hid h4
          have H5 := Lib.hid h5
          have H6 := Lib.hid h6
          have HS := Lib.hid hsub
          clear h1 h2 h3 h4 h5 h6 hsub hpx hxb
          gi_wp2_with fail
          refine region_quiet_round (by kernel_rfl) (by kernel_rfl) (by kernel_rfl) ?_
          repeat (gi_big_quiet_step (fail))
          refine wpQuietIn_nil ?_
          intro _ hw'
          obtain ⟨nq, hw''⟩ := hw'
          subst hw''
          gi_wp2_with fail
          refine ⟨keeps_drewN _ W _, heap_drewN _ _ _, H1.out.drewN _, (heap_drewN _ _ _).trans H2.out, (heap_drewN _ _ _).trans H3.out, below_to H4.out H4.out.size (below_drewN _ _), H5.out.below (below_drewN _ _), fun q hq => ?_⟩
          rcases List.mem_append.1 hq with hq | hq
          · exact H6.out q hq
          · rw [List.mem_singleton.1 hq]; exact HS.out
        · have hz2 : ¬ ((diff (cell cs x) (cell cs k) : Nat) : Int) = 0 := fun e => by
            apply hsub
            unfold subB
            rw [decide_eq_true_eq]
            omega
          have hno : spaceB cs = false := by
            rcases hs : spaceB cs with _ | _
            · rfl
            · exact absurd ((space_iff.1 hs k hlt).2 x hxn hxb) hsub
          have H2 := Lib.hid h2
          have H4 := Lib.hid h4
          have H5 := Lib.hid h5
          have HNO := Lib.hid hno
          clear h1 h2 h3 h4 h5 h6 hsub hpx hxb hno
          gi_wp2_with fail
          refine region_quiet_round (by kernel_rfl) (by kernel_rfl) (by kernel_rfl) ?_
          repeat (gi_big_quiet_step (fail))
          refine wpQuietIn_nil ?_
          intro _ hw'
          obtain ⟨nq, hw''⟩ := hw'
          subst hw''
          gi_wp2_with fail
          refine ⟨(keeps_drewN _ W _).trans (keeps_set _ _ _ _ _), SameAt.setCell (heap_drewN _ _ _) (by omega) _, rfl, set_same ((heap_drewN _ _ _).trans H2.out), (below_to H4.out H4.out.size (below_drewN _ _)).setCell (p := ⟨w.heap.size + 1, 0, none⟩) (by simp) _, (H5.out.below (below_drewN _ _)).setCell _ _ _, HNO.out⟩
      case done =>
        rintro D W hD ⟨h1, h2, h3, h4, h5, h6⟩ hK
        have HOK2 : Hid (∀ p, p < k + 1 → (cell cs p).testBit p = true ∧ ∀ q, q < cs.length → (cell cs p).testBit q = true → subB (cell cs q) (cell cs p) = true) := Lib.hid (fun p hp => by
          by_cases e : p = k
          · subst e
            exact ⟨HBIT.out, fun q _ hb => h6 q ((bitsOf_mem hc1).2 hb)⟩
          · exact HOK.out p (by omega))
        have hm2 := h5.add (D := D) (by omega) (by omega) hK
        have hm3 : Marks w.heap.size W.heap.size ({ target := .collected D, args := #[] } :: ds) W := hm2.mono (by have := heap_lt hK; omega)
        have H1 := Lib.hid h1
        have H2 := Lib.hid h2
        have H4 := Lib.hid h4
        have H5 := Lib.hid hm3
        clear h1 h2 h3 h4 h5 h6 hm2 hm3
        gi_wp2_with fail
        refine ⟨⟨k + 1, _, _, _, _, _, _, _, _, _, _, _, _, _, _, _, _, _, _, _, _, _, _, _, _, _, _, _, _, _, by omega, HOK2.out, H1.out, H2.out, H4.out, H5.out, by go_num⟩, ?_⟩
        simp [intOf]; omega
      case stop =>
        rintro D c pre W hD hpre ⟨rfl, h2, h4, h5, h6⟩ hK
        have hm2 := h5.add (D := D) (by omega) (by omega) hK
        gi_wp2_with fail
        refine leave_marks _ _ _ hm2 fun w' hs => ?_
        refine ⟨_, results_cell1 (g := w.heap.size + 1) rfl rfl (by kernel_rfl) (hs.keep _ _ _ _ h2), by rw [h6], ?_⟩
        exact h4.trans hs.below
  · have hks : k = cs.length := by omega
    have hyes : spaceB cs = true := space_iff.2 fun p hp => HOK.out p (by omega)
    have c1 := cell_of s1 (j := 0) rfl
    have f1 := free_of s1 0
    have HY := Lib.hid hyes
    have S1 := Lib.hid s1
    have HB := Lib.hid hbw
    have HM := Lib.hid hmk
    clear hyes s0 s1 hbw hmk
    gi_wp2_with fail
    refine leave_marks _ _ _ (HM.out.setCell _ _ _) fun w' hs => ?_
    refine ⟨_, results_cell1 (g := w.heap.size + 1) rfl rfl (by kernel_rfl) (hs.keep _ _ _ _ (set_same S1.out)), by rw [HY.out], ?_⟩
    exact (HB.out.setCell (p := ⟨w.heap.size + 1, 0, none⟩) (by simp) _).trans hs.below
end Go.Proofs.YtmagkcioplcidaeDoor

/- ply: newSpace. -/
set_option linter.unusedVariables false
set_option linter.unusedSimpArgs false
namespace Go.Proofs.YtmagkcioplcidaeDoor
open Go.RowKit

/-- a region walked by hand under a condition S: the count and the list of what is done are written out -/
theorem region_held_lit {P : Program} {ops : List Oper} {Q : Exit → Act → World → Prop} (S : World → Prop) {id : Nat} {a : Act} {w : World} (m : Nat) (L : Array Bool) (hl : ops.length = m) (hL : Array.replicate m false = L) (hm : P.follows .mixedOrders = true) (hS : S w.drew)
    (h : S w.drew → wpAnyH P .any ops.toArray (NoPanic Q) S m L a w.drew) : (Code.region id ops.toArray true).wp P Q a w := by
  subst hl
  subst hL
  exact wp_region_noPanic (wp_region_held_drew hm hS (by simpa using h))
theorem exec_load_sp {ρ : Operand → Value} {o : Oper} {x : Operand} {w : World} {b n : Nat} {c : Nat → Nat} (ho : o.op = .load 41 x) (hx : ρ x = .pointer (some ⟨b, 0, none⟩)) (h : SpF w b n c) : (execOp ρ o).run Tryd.prog w = .ok (.value (spF n c)) w := by
  obtain ⟨c0, c1, c2, c3, c4, c5, c6⟩ := h.cells
  unfold execOp
  simp only [ho, hx]
  go_simp
/-- a space stored over a space -/
def putSp (w : World) (b n : Nat) (c : Nat → Nat) : World := ((((((w.setCell ⟨b, 0, none⟩ (.int .i64 n)).setCell ⟨b, 1, none⟩ (.int .u64 (c 0))).setCell ⟨b, 2, none⟩ (.int .u64 (c 1))).setCell ⟨b, 3, none⟩ (.int .u64 (c 2))).setCell ⟨b, 4, none⟩ (.int .u64 (c 3))).setCell ⟨b, 5, none⟩ (.int .u64 (c 4))).setCell ⟨b, 6, none⟩ (.int .u64 (c 5))
theorem putSp_sp {w : World} {b n n' : Nat} {c c' : Nat → Nat} (h : SpF w b n c) : SpF (putSp w b n' c') b n' c' := SpF.store c' h
theorem putSp_other {w : World} {b n k n' : Nat} {c c' : Nat → Nat} (h : SpF w k n c) (hne : k ≠ b) : SpF (putSp w b n' c') k n c := h.other7 hne _ _ _ _ _ _ _
theorem putSp_below {w0 w : World} {b n' : Nat} {c' : Nat → Nat} (h : Below w0.heap.size w0 w) (hb : w0.heap.size ≤ b) : Below w0.heap.size w0 (putSp w b n' c') := h.set7 hb _ _ _ _ _ _ _
theorem run_store_sp {w : World} {b n n' : Nat} {c : Nat → Nat} (c' : Nat → Nat) (h : SpF w b n c) : (storeVar 41 ⟨b, 0, none⟩ (spF n' c')).run Tryd.prog w = .ok () (putSp w b n' c') := by
  obtain ⟨e0, e1, e2, e3, e4, e5, e6⟩ := h.cells
  have f0 := h.free 0
  have f1 := h.free 1
  have f2 := h.free 2
  have f3 := h.free 3
  have f4 := h.free 4
  have f5 := h.free 5
  have f6 := h.free 6
  unfold storeVar
  go_simp
  rfl
set_option maxRecDepth 100000 in
theorem wp_store_sp {o : Oper} {a : Act} {x y : Operand} {w : World} {K : Act → World → Prop} {Q : Exit → Act → World → Prop} {b n n' : Nat} {c : Nat → Nat} (c' : Nat → Nat) (ho : o.op = .store 41 x y) (hx : a.eval x = .pointer (some ⟨b, 0, none⟩)) (hy : a.eval y = spF n' c') (h : SpF w b n c)
    (hK : K (a.put o.dst undef) (putSp w b n' c')) : Oper.wp Tryd.prog o a w K Q := by
  have hr := run_store_sp (n' := n') c' h
  have hr2 : (Instr.storeAt 41 (.pointer (some ⟨b, 0, none⟩)) (spF n' c')).run Tryd.prog w = .ok () (putSp w b n' c') := by
    have hsa : (Instr.sureAddr (.pointer (some ⟨b, 0, none⟩))).run Tryd.prog w = .ok ⟨b, 0, none⟩ w := by go_simp
    unfold Instr.storeAt
    simp only [asAddr, Sem.run_bind, Sem.run_pure, Result.andThen_ok, hsa, hr]
  unfold Oper.wp execOp
  simp only [ho, hx, hy, Sem.run_bind, Sem.run_pure, Result.andThen_ok, hr2]
  exact hK
set_option maxRecDepth 100000 in
set_option maxHeartbeats 1600000 in
theorem newSpace_ok (v : Value) (cs : List Nat) (w : World) (hr : Reads w v (ofNats cs)) (hc : Codes cs) (hT : Tab w) :
    Calls Tryd.prog 18 #[v] w fun e w' => e = .returned (.tuple #[spV cs, .bool (spaceB cs)]) ∧ Below w.heap.size w w' := by
  have hal : Below w.heap.size w (w.alloc (.cells #[.int .i64 0, .int .u64 0, .int .u64 0, .int .u64 0, .int .u64 0, .int .u64 0, .int .u64 0] 41)) := (Below.refl _ _).alloc (Nat.le_refl _) _
  have hr0 := hr.below hal
  have hb0 := heap_alloc_new w (.cells #[.int .i64 0, .int .u64 0, .int .u64 0, .int .u64 0, .int .u64 0, .int .u64 0, .int .u64 0] 41)
  obtain ⟨a, cap, rfl, _, _, _⟩ := hr.open
  clear hr
  go_enter Tryd.func18, Tryd.ntmps18
  go_wp2_with fail
  refine (newCells_ok _ cs _ hr0 hc).mono ?_
  rintro e w1 ⟨rfl, hb1⟩
  have hb2 : SpF w1 w.heap.size 0 (fun _ => 0) := (hb1.block _ (heap_lt hb0)).trans hb0
  have hbw1 := below_to hal hal.size hb1
  clear hr0 hb0 hb1 hal
  have hal : Below w1.heap.size w1 (w1.alloc (.cells #[.int .i64 cs.length, .int .u64 (cell cs 0), .int .u64 (cell cs 1), .int .u64 (cell cs 2), .int .u64 (cell cs 3), .int .u64 (cell cs 4), .int .u64 (cell cs 5)] 41)) := (Below.refl _ _).alloc (Nat.le_refl _) _
  have hs2 := hb2.below hal
  have hs1 : SpF (w1.alloc (.cells #[.int .i64 cs.length, .int .u64 (cell cs 0), .int .u64 (cell cs 1), .int .u64 (cell cs 2), .int .u64 (cell cs 3), .int .u64 (cell cs 4), .int .u64 (cell cs 5)] 41)) w1.heap.size cs.length (cell cs) := heap_alloc_new _ _
  have hbw := below_to hbw1 hbw1.size hal
  have hlt := hb2.lt
  go_wp2_with fail
  generalize hW : World.alloc w1 _ = W at *
  clear hW hal hbw1 hb2
  generalize hB1 : w1.heap.size = B1 at *
  generalize hB0 : w.heap.size = B0 at *
  clear hB1
  have hd : Below W.heap.size W W.drew := (Below.refl _ _).drew
  have hTd : Tab W.drew := (hT.below (by rw [hB0]; exact hbw)).below hd
  have hs1d := hs1.below hd
  have hs2d := hs2.below hd
  have hbd := below_to hbw (by have := hbw.size; omega) hd
  generalize hWd : W.drew = Wd at *
  clear hs1 hs2 hbw hd
  refine region_held_lit (fun w' => SpF w' B1 cs.length (cell cs)) 8 #[false, false, false, false, false, false, false, false] rfl rfl (by kernel_rfl) (by rw [hWd]; exact hs1d) (fun hHeld => ?_)
  rw [hWd] at hHeld ⊢
  clear hWd
  refine wpAnyH_take (i := 0) (v := spV cs) rfl (by kernel_rfl) (by kernel_rfl) (by kernel_rfl) (fun _ _ _ h => h) (Or.inl ⟨by rfl, fun w' h => exec_load_sp rfl rfl h⟩) hHeld ?_
  try simp only [Act.put, List.getElem_toArray, List.getElem_cons_succ, List.getElem_cons_zero, List.setIfInBounds_toArray, List.set_cons_zero, List.set_cons_succ]
  refine wpAnyH_take (i := 1) (v := _) rfl (by kernel_rfl) (by kernel_rfl) (by kernel_rfl) (fun _ _ _ h => h) (Or.inl ⟨by rfl, fun w' h => by go_simp; rfl⟩) hHeld ?_
  try simp only [Act.put, List.getElem_toArray, List.getElem_cons_succ, List.getElem_cons_zero, List.setIfInBounds_toArray, List.set_cons_zero, List.set_cons_succ]
  refine wpAnyH_take (i := 2) (v := _) rfl (by kernel_rfl) (by kernel_rfl) (by kernel_rfl) (fun _ _ _ h => h) (Or.inl ⟨by rfl, fun w' h => by go_simp; rfl⟩) hHeld ?_
  try simp only [Act.put, List.getElem_toArray, List.getElem_cons_succ, List.getElem_cons_zero, List.setIfInBounds_toArray, List.set_cons_zero, List.set_cons_succ]
  refine wpAnyH_take (i := 3) (v := spV cs) rfl (by kernel_rfl) (by kernel_rfl) (by kernel_rfl) (fun _ _ _ h => h) (Or.inl ⟨by rfl, fun w' h => exec_load_sp rfl rfl h⟩) hHeld ?_
  try simp only [Act.put, List.getElem_toArray, List.getElem_cons_succ, List.getElem_cons_zero, List.setIfInBounds_toArray, List.set_cons_zero, List.set_cons_succ]
  refine wpAnyH_ready (rs := [4]) (by kernel_rfl) (by simp) ?_
  refine AllReadyH.cons rfl (fun K hK => ?_) AllReadyH.nil
  rw [if_pos (by rfl)]
  go_wp2_with fail
  refine (isSpace_any cs _ hc hTd).mono ?_
  rintro e w2 ⟨rfl, hb2⟩
  refine hK.out _ _ (hs1d.below hb2) (fun hHeld => ?_)
  clear hK K
  try simp only [Act.put, List.getElem_toArray, List.getElem_cons_succ, List.getElem_cons_zero, List.setIfInBounds_toArray, List.set_cons_zero, List.set_cons_succ]
  refine wpAnyH_take (i := 5) (v := _) rfl (by kernel_rfl) (by kernel_rfl) (by kernel_rfl) (fun _ _ _ h => h) (Or.inl ⟨by rfl, fun w' h => by go_simp; rfl⟩) hHeld ?_
  try simp only [Act.put, List.getElem_toArray, List.getElem_cons_succ, List.getElem_cons_zero, List.setIfInBounds_toArray, List.set_cons_zero, List.set_cons_succ]
  refine wpAnyH_ready (rs := [6]) (by kernel_rfl) (by simp) ?_
  refine AllReadyH.cons rfl (fun K hK => ?_) AllReadyH.nil
  rw [if_pos (by rfl)]
  refine wp_store_sp (cell cs) rfl rfl rfl (hs2d.below hb2) ?_
  refine hK.out _ _ (putSp_other hHeld (by omega)) (fun hHeld => ?_)
  clear hK K
  try simp only [Act.put, List.getElem_toArray, List.getElem_cons_succ, List.getElem_cons_zero, List.setIfInBounds_toArray, List.set_cons_zero, List.set_cons_succ]
  refine wpAnyH_ready (rs := [7]) (by kernel_rfl) (by simp) ?_
  refine AllReadyH.cons rfl (fun K hK => ?_) AllReadyH.nil
  go_simp
  refine hK.out _ _ hHeld (fun hHeld => ?_)
  clear hK K
  try simp only [Act.put, List.getElem_toArray, List.getElem_cons_succ, List.getElem_cons_zero, List.setIfInBounds_toArray, List.set_cons_zero, List.set_cons_succ]
  refine wpAnyH_done (by kernel_rfl) ?_ _
  refine NoPanic.normal ?_
  go_wp2_with fail
  refine bodyPost_ret (results_sp2 rfl rfl (putSp_sp (hs2d.below hb2)).load) rfl ⟨rfl, ?_⟩
  subst hB0
  exact putSp_below (below_to hbd hbd.size hb2) (Nat.le_refl _)
set_option maxRecDepth 100000 in
set_option maxHeartbeats 1600000 in
theorem newSpace_bad (v : Value) (l : List Int) (w : World) (hr : Reads w v l) (ho : okB l = false) :
    Calls Tryd.prog 18 #[v] w fun e w' => ∃ n c, e = .returned (.tuple #[spF n c, .bool false]) ∧ Below w.heap.size w w' := by
  have hal : Below w.heap.size w (w.alloc (.cells #[.int .i64 0, .int .u64 0, .int .u64 0, .int .u64 0, .int .u64 0, .int .u64 0, .int .u64 0] 41)) := (Below.refl _ _).alloc (Nat.le_refl _) _
  have hr0 := hr.below hal
  have hb0 := heap_alloc_new w (.cells #[.int .i64 0, .int .u64 0, .int .u64 0, .int .u64 0, .int .u64 0, .int .u64 0, .int .u64 0] 41)
  obtain ⟨a, cap, rfl, _, _, _⟩ := hr.open
  clear hr
  go_enter Tryd.func18, Tryd.ntmps18
  go_wp2_with fail
  refine ((newCells_bad _ l _ hr0 ho).mono (R' := fun e w' => ∃ n c, e = .returned (.tuple #[spF n c, .bool false]) ∧ Below (w.alloc (.cells #[.int .i64 0, .int .u64 0, .int .u64 0, .int .u64 0, .int .u64 0, .int .u64 0, .int .u64 0] 41)).heap.size (w.alloc (.cells #[.int .i64 0, .int .u64 0, .int .u64 0, .int .u64 0, .int .u64 0, .int .u64 0, .int .u64 0] 41)) w') (fun e w' h => ⟨_, _, h.1, h.2⟩)).mono ?_
  rintro e w1 ⟨n, c, rfl, hb1⟩
  have hb2 : SpF w1 w.heap.size 0 (fun _ => 0) := (hb1.block _ (heap_lt hb0)).trans hb0
  have hbw1 := below_to hal hal.size hb1
  clear hr0 hb0 hb1 hal
  have hal : Below w1.heap.size w1 (w1.alloc (.cells #[.int .i64 n, .int .u64 (c 0), .int .u64 (c 1), .int .u64 (c 2), .int .u64 (c 3), .int .u64 (c 4), .int .u64 (c 5)] 41)) := (Below.refl _ _).alloc (Nat.le_refl _) _
  have hs2 := hb2.below hal
  have hs1 : SpF (w1.alloc (.cells #[.int .i64 n, .int .u64 (c 0), .int .u64 (c 1), .int .u64 (c 2), .int .u64 (c 3), .int .u64 (c 4), .int .u64 (c 5)] 41)) w1.heap.size n c := heap_alloc_new _ _
  have hbw := below_to hbw1 hbw1.size hal
  have hlt := hb2.lt
  go_wp2_with fail
  generalize hW : World.alloc w1 _ = W at *
  clear hW hal hbw1 hb2
  generalize hB1 : w1.heap.size = B1 at *
  generalize hB0 : w.heap.size = B0 at *
  clear hB1
  have hd : Below W.heap.size W W.drew := (Below.refl _ _).drew
  have hs1d := hs1.below hd
  have hs2d := hs2.below hd
  have hbd := below_to hbw (by have := hbw.size; omega) hd
  generalize hWd : W.drew = Wd at *
  clear hs1 hs2 hbw hd
  refine region_held_lit (fun w' => SpF w' B1 n c) 8 #[false, false, false, false, false, false, false, false] rfl rfl (by kernel_rfl) (by rw [hWd]; exact hs1d) (fun hHeld => ?_)
  rw [hWd] at hHeld ⊢
  clear hWd
  refine wpAnyH_take (i := 0) (v := spF n c) rfl (by kernel_rfl) (by kernel_rfl) (by kernel_rfl) (fun _ _ _ h => h) (Or.inl ⟨by rfl, fun w' h => exec_load_sp rfl rfl h⟩) hHeld ?_
  try simp only [Act.put, List.getElem_toArray, List.getElem_cons_succ, List.getElem_cons_zero, List.setIfInBounds_toArray, List.set_cons_zero, List.set_cons_succ]
  refine wpAnyH_take (i := 1) (v := _) rfl (by kernel_rfl) (by kernel_rfl) (by kernel_rfl) (fun _ _ _ h => h) (Or.inl ⟨by rfl, fun w' h => by go_simp; rfl⟩) hHeld ?_
  try simp only [Act.put, List.getElem_toArray, List.getElem_cons_succ, List.getElem_cons_zero, List.setIfInBounds_toArray, List.set_cons_zero, List.set_cons_succ]
  refine wpAnyH_take (i := 2) (v := _) rfl (by kernel_rfl) (by kernel_rfl) (by kernel_rfl) (fun _ _ _ h => h) (Or.inl ⟨by rfl, fun w' h => by go_simp; rfl⟩) hHeld ?_
  try simp only [Act.put, List.getElem_toArray, List.getElem_cons_succ, List.getElem_cons_zero, List.setIfInBounds_toArray, List.set_cons_zero, List.set_cons_succ]
  refine wpAnyH_take (i := 3) (v := undef) rfl (by kernel_rfl) (by kernel_rfl) (by kernel_rfl) (fun _ _ _ h => h) (Or.inr ⟨by simp [Region.wanted, yielded], rfl⟩) hHeld ?_
  try simp only [Act.put, List.getElem_toArray, List.getElem_cons_succ, List.getElem_cons_zero, List.setIfInBounds_toArray, List.set_cons_zero, List.set_cons_succ]
  refine wpAnyH_take (i := 4) (v := undef) rfl (by kernel_rfl) (by kernel_rfl) (by kernel_rfl) (fun _ _ _ h => h) (Or.inr ⟨by simp [Region.wanted, yielded], rfl⟩) hHeld ?_
  try simp only [Act.put, List.getElem_toArray, List.getElem_cons_succ, List.getElem_cons_zero, List.setIfInBounds_toArray, List.set_cons_zero, List.set_cons_succ]
  refine wpAnyH_take (i := 5) (v := _) rfl (by kernel_rfl) (by kernel_rfl) (by kernel_rfl) (fun _ _ _ h => h) (Or.inl ⟨by rfl, fun w' h => by go_simp; rfl⟩) hHeld ?_
  try simp only [Act.put, List.getElem_toArray, List.getElem_cons_succ, List.getElem_cons_zero, List.setIfInBounds_toArray, List.set_cons_zero, List.set_cons_succ]
  refine wpAnyH_ready (rs := [6]) (by kernel_rfl) (by simp) ?_
  refine AllReadyH.cons rfl (fun K hK => ?_) AllReadyH.nil
  rw [if_pos (by rfl)]
  refine wp_store_sp (x := .tmp 2) (y := .tmp 11) (b := B0) (n' := n) (n := 0) (c := fun _ => 0) c rfl rfl rfl hs2d ?_
  refine hK.out _ _ (putSp_other hHeld (by omega)) (fun hHeld => ?_)
  clear hK K
  try simp only [Act.put, List.getElem_toArray, List.getElem_cons_succ, List.getElem_cons_zero, List.setIfInBounds_toArray, List.set_cons_zero, List.set_cons_succ]
  refine wpAnyH_ready (rs := [7]) (by kernel_rfl) (by simp) ?_
  refine AllReadyH.cons rfl (fun K hK => ?_) AllReadyH.nil
  go_simp
  refine hK.out _ _ hHeld (fun hHeld => ?_)
  clear hK K
  try simp only [Act.put, List.getElem_toArray, List.getElem_cons_succ, List.getElem_cons_zero, List.setIfInBounds_toArray, List.set_cons_zero, List.set_cons_succ]
  refine wpAnyH_done (by kernel_rfl) ?_ _
  refine NoPanic.normal ?_
  go_wp2_with fail
  refine bodyPost_ret (results_sp2 rfl rfl (putSp_sp hs2d).load) rfl ⟨_, _, rfl, ?_⟩
  subst hB0
  exact putSp_below hbd (Nat.le_refl _)

/-- the numbers are the cells of a space -/
def spL (l : List Int) : Bool := okB l && spaceB (natsOf l)
theorem spL_nats {cs : List Nat} (hc : Codes cs) (hs : spaceB cs = true) : spL (ofNats cs) = true := by
  have h1 : natsOf (ofNats cs) = cs := by
    unfold natsOf ofNats
    rw [List.map_map]
    conv => rhs; rw [← List.map_id cs]
    refine List.map_congr_left fun x _ => ?_
    simp
  have h2 : okB (ofNats cs) = true := by
    unfold okB
    rw [ofNats_len, decide_eq_true hc.1, decide_eq_true hc.2.1, Bool.true_and, Bool.true_and, codesB_iff]
    intro k _
    rw [gi_nats, setB_iff]
    have := hc.2.2 k
    have e : ((2 : Int) ^ cs.length) = ((2 ^ cs.length : Nat) : Int) := by push_cast; rfl
    omega
  unfold spL
  rw [h1, h2, hs]; rfl
theorem spL_get {l : List Int} (h : spL l = true) : Codes (natsOf l) ∧ spaceB (natsOf l) = true ∧ l = ofNats (natsOf l) := by
  unfold spL at h
  rw [Bool.and_eq_true] at h
  exact ⟨(ok_codes h.1).1, h.2, (ok_codes h.1).2⟩
theorem newSpace_yes (v : Value) (cs : List Nat) (w : World) (hr : Reads w v (ofNats cs)) (hc : Codes cs) (hs : spaceB cs = true) (hT : Tab w) :
    Calls Tryd.prog 18 #[v] w fun e w' => e = .returned (.tuple #[spV cs, .bool true]) ∧ Below w.heap.size w w' := by
  have := newSpace_ok v cs w hr hc hT
  rwa [hs] at this
theorem newSpace_no (v : Value) (l : List Int) (w : World) (hr : Reads w v l) (h : spL l = false) (hT : Tab w) :
    Calls Tryd.prog 18 #[v] w fun e w' => ∃ n c, e = .returned (.tuple #[spF n c, .bool false]) ∧ Below w.heap.size w w' := by
  rcases ho : okB l with _ | _
  · exact newSpace_bad v l w hr ho
  · obtain ⟨hc, hl⟩ := ok_codes ho
    have hs : spaceB (natsOf l) = false := by
      unfold spL at h
      rw [ho, Bool.true_and] at h; exact h
    rw [hl] at hr
    have := newSpace_ok v (natsOf l) w hr hc hT
    rw [hs] at this
    exact this.mono fun e w' h => ⟨_, _, h.1, h.2⟩
end Go.Proofs.YtmagkcioplcidaeDoor

/- ply: closure. -/
set_option linter.unusedVariables false
set_option linter.unusedSimpArgs false
namespace Go.Proofs.YtmagkcioplcidaeDoor
open Go.RowKit

theorem SpF.regrown {w : World} {b n : Nat} {c : Nat → Nat} (h : SpF w b n c) :
    (∀ d os, (Go.Sort.grow (redrawn w d) os).cell? ⟨b, 0, none⟩ = some (.int .i64 n)) ∧ (∀ d os, (Go.Sort.grow (redrawn w d) os).cell? ⟨b, 1, none⟩ = some (.int .u64 (c 0))) ∧ (∀ d os, (Go.Sort.grow (redrawn w d) os).cell? ⟨b, 2, none⟩ = some (.int .u64 (c 1))) ∧ (∀ d os, (Go.Sort.grow (redrawn w d) os).cell? ⟨b, 3, none⟩ = some (.int .u64 (c 2))) ∧
    (∀ d os, (Go.Sort.grow (redrawn w d) os).cell? ⟨b, 4, none⟩ = some (.int .u64 (c 3))) ∧ (∀ d os, (Go.Sort.grow (redrawn w d) os).cell? ⟨b, 5, none⟩ = some (.int .u64 (c 4))) ∧ (∀ d os, (Go.Sort.grow (redrawn w d) os).cell? ⟨b, 6, none⟩ = some (.int .u64 (c 5))) := by
  obtain ⟨c0, c1, c2, c3, c4, c5, c6⟩ := h.cells
  exact ⟨cell_regrown c0, cell_regrown c1, cell_regrown c2, cell_regrown c3, cell_regrown c4, cell_regrown c5, cell_regrown c6⟩

theorem allN_lt64 {n : Nat} (hn : n ≤ 6) : allN n < 64 := Nat.lt_of_lt_of_le (all_lt n) (Nat.pow_le_pow_right (n := 2) (by omega) hn)
theorem lt64_of {n s : Nat} (hn : n ≤ 6) (hs : s < 2 ^ n) : s < 64 := Nat.lt_of_lt_of_le hs (Nat.pow_le_pow_right (n := 2) (by omega) hn)
set_option maxRecDepth 100000 in
set_option maxHeartbeats 1600000 in
theorem closure_any (cs : List Nat) (s : Nat) (w : World) (hc : Codes cs) (hs : s < 2 ^ cs.length) (hT : Tab w) :
    Calls Tryd.prog 29 #[spV cs, .int .u64 s] w fun e w' => e = .returned (.int .u64 (closureN cs s : Nat)) ∧ Below w.heap.size w w' := by
  have hn6 := hc.2.1
  have hal : Below w.heap.size w (w.alloc (.cells #[.int .i64 cs.length, .int .u64 (cell cs 0), .int .u64 (cell cs 1), .int .u64 (cell cs 2), .int .u64 (cell cs 3), .int .u64 (cell cs 4), .int .u64 (cell cs 5)] 41)) := (Below.refl _ _).alloc (Nat.le_refl _) _
  have hs1 : SpF (w.alloc (.cells #[.int .i64 cs.length, .int .u64 (cell cs 0), .int .u64 (cell cs 1), .int .u64 (cell cs 2), .int .u64 (cell cs 3), .int .u64 (cell cs 4), .int .u64 (cell cs 5)] 41)) w.heap.size cs.length (cell cs) := heap_alloc_new _ _
  have ha1 := u64_andNot (allN cs.length) s (by have := allN_lt64 hn6; omega) (by have := lt64_of hn6 hs; omega)
  have ha2 := u64_andNot (allN cs.length) (insideN cs (otherN cs.length s)) (by have := allN_lt64 hn6; omega) (by have := lt64_of hn6 (inside_lt cs (otherN cs.length s)); omega)
  have hT1 := hT.below hal
  go_enter Tryd.func29, Tryd.ntmps29
  go_wp2_with fail
  generalize hW : World.alloc w _ = W at *
  clear hW
  generalize hB : w.heap.size = B at *
  obtain ⟨k0, k1, k2, k3, k4, k5, k6⟩ := hs1.regrown
  have cA : ∀ d os, Calls Tryd.prog 19 #[spV cs] (Go.Sort.grow (redrawn W d) os) fun e w'' => e = .returned (.int .u64 (allN cs.length : Nat)) ∧ ∃ p : Regrown, w'' = Go.Sort.grow (redrawn W p.d) p.os := fun d os => Calls.regrown_of (all_any cs _ hn6)
  have cI : ∀ d os, Calls Tryd.prog 20 #[spV cs, .int .u64 (diff (allN cs.length) s : Nat)] (Go.Sort.grow (redrawn W d) os) fun e w'' => e = .returned (.int .u64 (insideN cs (otherN cs.length s) : Nat)) ∧ ∃ p : Regrown, w'' = Go.Sort.grow (redrawn W p.d) p.os := fun d os => Calls.regrown_of (inside_any cs (otherN cs.length s) _ hc (other_lt _ _) (hT1.below (below_regrown W d os)))
  have HAL := Lib.hid hal
  clear hs1 hT hT1 hal hc hs
  refine wp_region_quiet_below (by kernel_rfl) (by kernel_rfl) ?_
  repeat (quiet_step (first | exact cA _ _ | exact cI _ _))
  refine wpQuiet_nil ?_
  intro _ hw'
  obtain ⟨⟨dq, osq⟩, hw''⟩ := hw'
  subst hw''
  go_wp2_with fail
  go_ret
  exact ⟨rfl, by subst hB; exact below_to HAL.out HAL.out.size (below_regrown _ _ _)⟩
end Go.Proofs.YtmagkcioplcidaeDoor

/- ply: both. -/
set_option linter.unusedVariables false
set_option linter.unusedSimpArgs false
namespace Go.Proofs.YtmagkcioplcidaeDoor
open Go.RowKit

theorem reads_one (w : World) (x : Int) : Reads (w.alloc (.cells #[.int .i64 x] 3)) (.slice (some ⟨w.heap.size, 0, none⟩) 1 1) [x] :=
  ⟨_, 1, rfl, Nat.le_refl _, by simp [maxLen], .inr ⟨w.heap.size, 0, rfl, by simp, fun j hj => by
    have : j = 0 := by simpa using hj
    subst this
    exact cell_of (heap_alloc_new _ _) rfl⟩⟩
set_option maxRecDepth 100000 in
set_option maxHeartbeats 1600000 in
theorem both_ok (v : Value) (cs : List Nat) (code : Int) (w : World) (hr : Reads w v (ofNats cs)) (hc : Codes cs) (hs : spaceB cs = true) (hT : Tab w) :
    Calls Tryd.prog 23 #[v, .int .i64 code] w fun e w' => e = .returned (.tuple #[spV cs, .int .u64 (IntKind.u64.wrap code), .bool (setB cs.length code)]) ∧ Below w.heap.size w w' := by
  have hal : Below w.heap.size w (w.alloc (.cells #[.int .i64 0, .int .u64 0, .int .u64 0, .int .u64 0, .int .u64 0, .int .u64 0, .int .u64 0] 41)) := (Below.refl _ _).alloc (Nat.le_refl _) _
  have hr0 := hr.below hal
  have hb0 := heap_alloc_new w (.cells #[.int .i64 0, .int .u64 0, .int .u64 0, .int .u64 0, .int .u64 0, .int .u64 0, .int .u64 0] 41)
  obtain ⟨a, cap, rfl, _, _, _⟩ := hr.open
  clear hr
  go_enter Tryd.func23, Tryd.ntmps23
  go_wp2_with fail
  refine (newSpace_yes _ cs _ hr0 hc hs (hT.below hal)).mono ?_
  rintro e w1 ⟨rfl, hb1⟩
  have hb2 : SpF w1 w.heap.size 0 (fun _ => 0) := (hb1.block _ (heap_lt hb0)).trans hb0
  have hbw1 := below_to hal hal.size hb1
  clear hr0 hb0 hb1 hal
  have hal : Below w1.heap.size w1 (w1.alloc (.cells #[.int .i64 cs.length, .int .u64 (cell cs 0), .int .u64 (cell cs 1), .int .u64 (cell cs 2), .int .u64 (cell cs 3), .int .u64 (cell cs 4), .int .u64 (cell cs 5)] 41)) := (Below.refl _ _).alloc (Nat.le_refl _) _
  have hs2 := hb2.below hal
  have hs1 : SpF (w1.alloc (.cells #[.int .i64 cs.length, .int .u64 (cell cs 0), .int .u64 (cell cs 1), .int .u64 (cell cs 2), .int .u64 (cell cs 3), .int .u64 (cell cs 4), .int .u64 (cell cs 5)] 41)) w1.heap.size cs.length (cell cs) := heap_alloc_new _ _
  have hbw := below_to hbw1 hbw1.size hal
  have hlt := hb2.lt
  go_wp2_with fail
  generalize hW : World.alloc w1 _ = W at *
  clear hW hal hbw1 hb2
  generalize hB1 : w1.heap.size = B1 at *
  generalize hB0 : w.heap.size = B0 at *
  clear hB1
  have hd : Below W.heap.size W W.drew := (Below.refl _ _).drew
  have hs1d := hs1.below hd
  have hs2d := hs2.below hd
  have hbd := below_to hbw (by have := hbw.size; omega) hd
  generalize hWd : W.drew = Wd at *
  clear hs1 hs2 hbw hd
  refine region_held_lit (fun w' => SpF w' B1 cs.length (cell cs)) 14 #[false, false, false, false, false, false, false, false, false, false, false, false, false, false] rfl rfl (by kernel_rfl) (by rw [hWd]; exact hs1d) (fun hHeld => ?_)
  rw [hWd] at hHeld ⊢
  clear hWd
  refine wpAnyH_take (i := 0) (v := spF cs.length (cell cs)) rfl (by kernel_rfl) (by kernel_rfl) (by kernel_rfl) (fun _ _ _ h => h) (Or.inl ⟨by rfl, fun w' h => exec_load_sp rfl rfl h⟩) hHeld ?_
  try simp only [Act.put, List.getElem_toArray, List.getElem_cons_succ, List.getElem_cons_zero, List.setIfInBounds_toArray, List.set_cons_zero, List.set_cons_succ]
  refine wpAnyH_take (i := 1) (v := _) rfl (by kernel_rfl) (by kernel_rfl) (by kernel_rfl) (fun _ _ _ h => h) (Or.inl ⟨by rfl, fun w' h => by go_simp; rfl⟩) hHeld ?_
  try simp only [Act.put, List.getElem_toArray, List.getElem_cons_succ, List.getElem_cons_zero, List.setIfInBounds_toArray, List.set_cons_zero, List.set_cons_succ]
  refine wpAnyH_take (i := 2) (v := _) rfl (by kernel_rfl) (by kernel_rfl) (by kernel_rfl) (fun _ _ _ h => h) (Or.inl ⟨by rfl, fun w' h => by go_simp; rfl⟩) hHeld ?_
  try simp only [Act.put, List.getElem_toArray, List.getElem_cons_succ, List.getElem_cons_zero, List.setIfInBounds_toArray, List.set_cons_zero, List.set_cons_succ]
  refine wpAnyH_take (i := 3) (v := _) rfl (by kernel_rfl) (by kernel_rfl) (by kernel_rfl) (fun _ _ _ h => h) (Or.inl ⟨by rfl, fun w' h => by go_simp; rfl⟩) hHeld ?_
  try simp only [Act.put, List.getElem_toArray, List.getElem_cons_succ, List.getElem_cons_zero, List.setIfInBounds_toArray, List.set_cons_zero, List.set_cons_succ]
  refine wpAnyH_take (i := 4) (v := _) rfl (by kernel_rfl) (by kernel_rfl) (by kernel_rfl) (fun _ _ _ h => h) (Or.inl ⟨by rfl, fun w' h => by go_simp; rfl⟩) hHeld ?_
  try simp only [Act.put, List.getElem_toArray, List.getElem_cons_succ, List.getElem_cons_zero, List.setIfInBounds_toArray, List.set_cons_zero, List.set_cons_succ]
  refine wpAnyH_take (i := 5) (v := _) rfl (by kernel_rfl) (by kernel_rfl) (by kernel_rfl) (fun _ _ _ h => h) (Or.inl ⟨by rfl, fun w' h => by go_simp; rfl⟩) hHeld ?_
  try simp only [Act.put, List.getElem_toArray, List.getElem_cons_succ, List.getElem_cons_zero, List.setIfInBounds_toArray, List.set_cons_zero, List.set_cons_succ]
  refine wpAnyH_take (i := 6) (v := _) rfl (by kernel_rfl) (by kernel_rfl) (by kernel_rfl) (fun _ _ _ h => h) (Or.inl ⟨by rfl, fun w' h => by have h0 := h.n; go_simp; rfl⟩) hHeld ?_
  try simp only [Act.put, List.getElem_toArray, List.getElem_cons_succ, List.getElem_cons_zero, List.setIfInBounds_toArray, List.set_cons_zero, List.set_cons_succ]
  refine wpAnyH_take (i := 7) (v := _) rfl (by kernel_rfl) (by kernel_rfl) (by kernel_rfl) (fun _ _ _ h => h) (Or.inl ⟨by rfl, fun w' h => by go_simp; rfl⟩) hHeld ?_
  try simp only [Act.put, List.getElem_toArray, List.getElem_cons_succ, List.getElem_cons_zero, List.setIfInBounds_toArray, List.set_cons_zero, List.set_cons_succ]
  refine wpAnyH_ready (rs := [8]) (by kernel_rfl) (by simp) ?_
  refine AllReadyH.cons rfl (fun K hK => ?_) AllReadyH.nil
  go_wp2_with fail
  have hal8 : Below Wd.heap.size Wd (Wd.alloc (.cells #[.int .i64 code] 3)) := (Below.refl _ _).alloc (Nat.le_refl _) _
  have h8 := reads_one Wd code
  refine hK.out _ _ (hs1d.below hal8) (fun hHeld => ?_)
  clear hK K
  have hs2e := hs2d.below hal8
  have hbe := below_to hbd (by have := hbd.size; omega) hal8
  generalize hB8 : Wd.heap.size = B8 at *
  generalize hW8 : World.alloc Wd _ = W8 at *
  clear hW8 hB8 hal8 hs2d hs1d
  try simp only [Act.put, List.getElem_toArray, List.getElem_cons_succ, List.getElem_cons_zero, List.setIfInBounds_toArray, List.set_cons_zero, List.set_cons_succ]
  refine wpAnyH_ready (rs := [9]) (by kernel_rfl) (by simp) ?_
  refine AllReadyH.cons rfl (fun K hK => ?_) AllReadyH.nil
  rw [if_pos (by rfl)]
  go_wp2_with fail
  refine (areCodes_any cs.length _ [code] _ hc.2.1 h8).mono ?_
  rintro e w2 ⟨rfl, hb2⟩
  have hs2d := hs2e.below hb2
  refine hK.out _ _ (hHeld.below hb2) (fun hHeld => ?_)
  have hbd := below_to hbe (by have := hbe.size; omega) hb2
  clear hK K
  try simp only [Act.put, List.getElem_toArray, List.getElem_cons_succ, List.getElem_cons_zero, List.setIfInBounds_toArray, List.set_cons_zero, List.set_cons_succ]
  refine wpAnyH_take (i := 10) (v := _) rfl (by kernel_rfl) (by kernel_rfl) (by kernel_rfl) (fun _ _ _ h => h) (Or.inl ⟨by rfl, fun w' h => by go_simp; rfl⟩) hHeld ?_
  try simp only [Act.put, List.getElem_toArray, List.getElem_cons_succ, List.getElem_cons_zero, List.setIfInBounds_toArray, List.set_cons_zero, List.set_cons_succ]
  refine wpAnyH_ready (rs := [11]) (by kernel_rfl) (by simp) ?_
  refine AllReadyH.cons rfl (fun K hK => ?_) AllReadyH.nil
  rw [if_pos (by rfl)]
  refine wp_store_sp (cell cs) rfl rfl rfl hs2d ?_
  refine hK.out _ _ (putSp_other hHeld (by omega)) (fun hHeld => ?_)
  clear hK K
  try simp only [Act.put, List.getElem_toArray, List.getElem_cons_succ, List.getElem_cons_zero, List.setIfInBounds_toArray, List.set_cons_zero, List.set_cons_succ]
  refine wpAnyH_ready (rs := [12]) (by kernel_rfl) (by simp) ?_
  refine AllReadyH.cons rfl (fun K hK => ?_) AllReadyH.nil
  go_simp
  refine hK.out _ _ hHeld (fun hHeld => ?_)
  clear hK K
  try simp only [Act.put, List.getElem_toArray, List.getElem_cons_succ, List.getElem_cons_zero, List.setIfInBounds_toArray, List.set_cons_zero, List.set_cons_succ]
  refine wpAnyH_ready (rs := [13]) (by kernel_rfl) (by simp) ?_
  refine AllReadyH.cons rfl (fun K hK => ?_) AllReadyH.nil
  go_simp
  refine hK.out _ _ hHeld (fun hHeld => ?_)
  clear hK K
  try simp only [Act.put, List.getElem_toArray, List.getElem_cons_succ, List.getElem_cons_zero, List.setIfInBounds_toArray, List.set_cons_zero, List.set_cons_succ]
  refine wpAnyH_done (by kernel_rfl) ?_ _
  refine NoPanic.normal ?_
  go_wp2_with fail
  refine bodyPost_ret (results_sp3 rfl rfl (putSp_sp hs2d).load) rfl ?_
  subst hB0
  refine ⟨?_, putSp_below hbd (Nat.le_refl _)⟩
  rw [show setB cs.length code = codesB cs.length [code] by simp [codesB]]
  rfl
set_option maxRecDepth 100000 in
set_option maxHeartbeats 1600000 in
theorem both_bad (v : Value) (l : List Int) (code : Int) (w : World) (hr : Reads w v l) (hs : spL l = false) (hT : Tab w) :
    Calls Tryd.prog 23 #[v, .int .i64 code] w fun e w' => ∃ n c u, e = .returned (.tuple #[spF n c, .int .u64 u, .bool false]) ∧ Below w.heap.size w w' := by
  have hal : Below w.heap.size w (w.alloc (.cells #[.int .i64 0, .int .u64 0, .int .u64 0, .int .u64 0, .int .u64 0, .int .u64 0, .int .u64 0] 41)) := (Below.refl _ _).alloc (Nat.le_refl _) _
  have hr0 := hr.below hal
  have hb0 := heap_alloc_new w (.cells #[.int .i64 0, .int .u64 0, .int .u64 0, .int .u64 0, .int .u64 0, .int .u64 0, .int .u64 0] 41)
  obtain ⟨a, cap, rfl, _, _, _⟩ := hr.open
  clear hr
  go_enter Tryd.func23, Tryd.ntmps23
  go_wp2_with fail
  refine (newSpace_no _ l _ hr0 hs (hT.below hal)).mono ?_
  rintro e w1 ⟨n, c, rfl, hb1⟩
  have hb2 : SpF w1 w.heap.size 0 (fun _ => 0) := (hb1.block _ (heap_lt hb0)).trans hb0
  have hbw1 := below_to hal hal.size hb1
  clear hr0 hb0 hb1 hal
  have hal : Below w1.heap.size w1 (w1.alloc (.cells #[.int .i64 n, .int .u64 (c 0), .int .u64 (c 1), .int .u64 (c 2), .int .u64 (c 3), .int .u64 (c 4), .int .u64 (c 5)] 41)) := (Below.refl _ _).alloc (Nat.le_refl _) _
  have hs2 := hb2.below hal
  have hs1 : SpF (w1.alloc (.cells #[.int .i64 n, .int .u64 (c 0), .int .u64 (c 1), .int .u64 (c 2), .int .u64 (c 3), .int .u64 (c 4), .int .u64 (c 5)] 41)) w1.heap.size n c := heap_alloc_new _ _
  have hbw := below_to hbw1 hbw1.size hal
  have hlt := hb2.lt
  go_wp2_with fail
  generalize hW : World.alloc w1 _ = W at *
  clear hW hal hbw1 hb2
  generalize hB1 : w1.heap.size = B1 at *
  generalize hB0 : w.heap.size = B0 at *
  clear hB1
  have hd : Below W.heap.size W W.drew := (Below.refl _ _).drew
  have hs1d := hs1.below hd
  have hs2d := hs2.below hd
  have hbd := below_to hbw (by have := hbw.size; omega) hd
  generalize hWd : W.drew = Wd at *
  clear hs1 hs2 hbw hd
  refine region_held_lit (fun w' => SpF w' B1 n c) 14 #[false, false, false, false, false, false, false, false, false, false, false, false, false, false] rfl rfl (by kernel_rfl) (by rw [hWd]; exact hs1d) (fun hHeld => ?_)
  rw [hWd] at hHeld ⊢
  clear hWd
  refine wpAnyH_take (i := 0) (v := spF n c) rfl (by kernel_rfl) (by kernel_rfl) (by kernel_rfl) (fun _ _ _ h => h) (Or.inl ⟨by rfl, fun w' h => exec_load_sp rfl rfl h⟩) hHeld ?_
  try simp only [Act.put, List.getElem_toArray, List.getElem_cons_succ, List.getElem_cons_zero, List.setIfInBounds_toArray, List.set_cons_zero, List.set_cons_succ]
  refine wpAnyH_take (i := 1) (v := _) rfl (by kernel_rfl) (by kernel_rfl) (by kernel_rfl) (fun _ _ _ h => h) (Or.inl ⟨by rfl, fun w' h => by go_simp; rfl⟩) hHeld ?_
  try simp only [Act.put, List.getElem_toArray, List.getElem_cons_succ, List.getElem_cons_zero, List.setIfInBounds_toArray, List.set_cons_zero, List.set_cons_succ]
  refine wpAnyH_take (i := 2) (v := _) rfl (by kernel_rfl) (by kernel_rfl) (by kernel_rfl) (fun _ _ _ h => h) (Or.inl ⟨by rfl, fun w' h => by go_simp; rfl⟩) hHeld ?_
  try simp only [Act.put, List.getElem_toArray, List.getElem_cons_succ, List.getElem_cons_zero, List.setIfInBounds_toArray, List.set_cons_zero, List.set_cons_succ]
  refine wpAnyH_take (i := 3) (v := _) rfl (by kernel_rfl) (by kernel_rfl) (by kernel_rfl) (fun _ _ _ h => h) (Or.inl ⟨by rfl, fun w' h => by go_simp; rfl⟩) hHeld ?_
  try simp only [Act.put, List.getElem_toArray, List.getElem_cons_succ, List.getElem_cons_zero, List.setIfInBounds_toArray, List.set_cons_zero, List.set_cons_succ]
  refine wpAnyH_take (i := 4) (v := _) rfl (by kernel_rfl) (by kernel_rfl) (by kernel_rfl) (fun _ _ _ h => h) (Or.inl ⟨by rfl, fun w' h => by go_simp; rfl⟩) hHeld ?_
  try simp only [Act.put, List.getElem_toArray, List.getElem_cons_succ, List.getElem_cons_zero, List.setIfInBounds_toArray, List.set_cons_zero, List.set_cons_succ]
  refine wpAnyH_take (i := 5) (v := undef) rfl (by kernel_rfl) (by kernel_rfl) (by kernel_rfl) (fun _ _ _ h => h) (Or.inr ⟨by simp [Region.wanted, yielded], rfl⟩) hHeld ?_
  try simp only [Act.put, List.getElem_toArray, List.getElem_cons_succ, List.getElem_cons_zero, List.setIfInBounds_toArray, List.set_cons_zero, List.set_cons_succ]
  refine wpAnyH_take (i := 6) (v := undef) rfl (by kernel_rfl) (by kernel_rfl) (by kernel_rfl) (fun _ _ _ h => h) (Or.inr ⟨by simp [Region.wanted, yielded], rfl⟩) hHeld ?_
  try simp only [Act.put, List.getElem_toArray, List.getElem_cons_succ, List.getElem_cons_zero, List.setIfInBounds_toArray, List.set_cons_zero, List.set_cons_succ]
  refine wpAnyH_take (i := 7) (v := undef) rfl (by kernel_rfl) (by kernel_rfl) (by kernel_rfl) (fun _ _ _ h => h) (Or.inr ⟨by simp [Region.wanted, yielded], rfl⟩) hHeld ?_
  try simp only [Act.put, List.getElem_toArray, List.getElem_cons_succ, List.getElem_cons_zero, List.setIfInBounds_toArray, List.set_cons_zero, List.set_cons_succ]
  refine wpAnyH_take (i := 8) (v := undef) rfl (by kernel_rfl) (by kernel_rfl) (by kernel_rfl) (fun _ _ _ h => h) (Or.inr ⟨by simp [Region.wanted, yielded], rfl⟩) hHeld ?_
  try simp only [Act.put, List.getElem_toArray, List.getElem_cons_succ, List.getElem_cons_zero, List.setIfInBounds_toArray, List.set_cons_zero, List.set_cons_succ]
  refine wpAnyH_take (i := 9) (v := undef) rfl (by kernel_rfl) (by kernel_rfl) (by kernel_rfl) (fun _ _ _ h => h) (Or.inr ⟨by simp [Region.wanted, yielded], rfl⟩) hHeld ?_
  try simp only [Act.put, List.getElem_toArray, List.getElem_cons_succ, List.getElem_cons_zero, List.setIfInBounds_toArray, List.set_cons_zero, List.set_cons_succ]
  refine wpAnyH_take (i := 10) (v := _) rfl (by kernel_rfl) (by kernel_rfl) (by kernel_rfl) (fun _ _ _ h => h) (Or.inl ⟨by rfl, fun w' h => by go_simp; rfl⟩) hHeld ?_
  try simp only [Act.put, List.getElem_toArray, List.getElem_cons_succ, List.getElem_cons_zero, List.setIfInBounds_toArray, List.set_cons_zero, List.set_cons_succ]
  refine wpAnyH_ready (rs := [11]) (by kernel_rfl) (by simp) ?_
  refine AllReadyH.cons rfl (fun K hK => ?_) AllReadyH.nil
  rw [if_pos (by rfl)]
  refine wp_store_sp c rfl rfl rfl hs2d ?_
  refine hK.out _ _ (putSp_other hHeld (by omega)) (fun hHeld => ?_)
  clear hK K
  try simp only [Act.put, List.getElem_toArray, List.getElem_cons_succ, List.getElem_cons_zero, List.setIfInBounds_toArray, List.set_cons_zero, List.set_cons_succ]
  refine wpAnyH_ready (rs := [12]) (by kernel_rfl) (by simp) ?_
  refine AllReadyH.cons rfl (fun K hK => ?_) AllReadyH.nil
  go_simp
  refine hK.out _ _ hHeld (fun hHeld => ?_)
  clear hK K
  try simp only [Act.put, List.getElem_toArray, List.getElem_cons_succ, List.getElem_cons_zero, List.setIfInBounds_toArray, List.set_cons_zero, List.set_cons_succ]
  refine wpAnyH_ready (rs := [13]) (by kernel_rfl) (by simp) ?_
  refine AllReadyH.cons rfl (fun K hK => ?_) AllReadyH.nil
  go_simp
  refine hK.out _ _ hHeld (fun hHeld => ?_)
  clear hK K
  try simp only [Act.put, List.getElem_toArray, List.getElem_cons_succ, List.getElem_cons_zero, List.setIfInBounds_toArray, List.set_cons_zero, List.set_cons_succ]
  refine wpAnyH_done (by kernel_rfl) ?_ _
  refine NoPanic.normal ?_
  go_wp2_with fail
  refine bodyPost_ret (results_sp3 rfl rfl (putSp_sp hs2d).load) rfl ?_
  subst hB0
  exact ⟨_, _, _, rfl, putSp_below hbd (Nat.le_refl _)⟩
theorem code_wrap {n : Nat} {code : Int} (hn : n ≤ 6) (h : setB n code = true) : IntKind.u64.wrap code = (code.toNat : Nat) ∧ code.toNat < 2 ^ n := by
  obtain ⟨h0, h1⟩ := setB_iff.1 h
  have e : ((2 : Int) ^ n) = ((2 ^ n : Nat) : Int) := by push_cast; rfl
  have h2 : code.toNat < 2 ^ n := by omega
  have h3 := lt64_of hn h2
  refine ⟨?_, h2⟩
  have := wrapU code.toNat (by omega)
  rwa [Int.toNat_of_nonneg h0] at this ⊢
theorem both_yes (v : Value) (cs : List Nat) (s : Nat) (w : World) (hr : Reads w v (ofNats cs)) (hc : Codes cs) (hsp : spaceB cs = true) (hs : s < 2 ^ cs.length) (hT : Tab w) :
    Calls Tryd.prog 23 #[v, .int .i64 s] w fun e w' => e = .returned (.tuple #[spV cs, .int .u64 s, .bool true]) ∧ Below w.heap.size w w' := by
  have h := both_ok v cs s w hr hc hsp hT
  have h1 : setB cs.length (s : Int) = true := setB_iff.2 ⟨by omega, by
    have e : ((2 : Int) ^ cs.length) = ((2 ^ cs.length : Nat) : Int) := by push_cast; rfl
    omega⟩
  have h2 := (code_wrap hc.2.1 h1).1
  rw [h1, h2] at h
  exact h
theorem both_no (v : Value) (l : List Int) (code : Int) (w : World) (hr : Reads w v l) (h : (spL l && setB l.length code) = false) (hT : Tab w) :
    Calls Tryd.prog 23 #[v, .int .i64 code] w fun e w' => ∃ n c u, e = .returned (.tuple #[spF n c, .int .u64 u, .bool false]) ∧ Below w.heap.size w w' := by
  rcases hs : spL l with _ | _
  · exact both_bad v l code w hr hs hT
  · rw [hs, Bool.true_and] at h
    obtain ⟨hc, hsp, hl⟩ := spL_get hs
    have hlen : l.length = (natsOf l).length := (natsOf_len l).symm
    rw [hlen] at h
    rw [hl] at hr
    have := both_ok v (natsOf l) code w hr hc hsp hT
    rw [h] at this
    exact this.mono fun e w' h => ⟨_, _, _, h.1, h.2⟩
end Go.Proofs.YtmagkcioplcidaeDoor

/- ply: Closure, Inside, Edge, IsSpace. -/
set_option linter.unusedVariables false
set_option linter.unusedSimpArgs false
namespace Go.Proofs.YtmagkcioplcidaeDoor
open Go.RowKit

/-- a space laid in memory behind a call -/
theorem lay_sp {w0 w : World} (hb : Below w0.heap.size w0 w) (n : Nat) (c : Nat → Nat) : SpF (w.alloc (.cells #[.int .i64 n, .int .u64 (c 0), .int .u64 (c 1), .int .u64 (c 2), .int .u64 (c 3), .int .u64 (c 4), .int .u64 (c 5)] 41)) w.heap.size n c ∧ Below w0.heap.size w0 (w.alloc (.cells #[.int .i64 n, .int .u64 (c 0), .int .u64 (c 1), .int .u64 (c 2), .int .u64 (c 3), .int .u64 (c 4), .int .u64 (c 5)] 41)) :=
  ⟨heap_alloc_new _ _, hb.alloc hb.size _⟩

set_option maxRecDepth 100000 in
set_option maxHeartbeats 800000 in
theorem Closure_yes (v : Value) (cs : List Nat) (s : Nat) (w : World) (hr : Reads w v (ofNats cs)) (hc : Codes cs) (hsp : spaceB cs = true) (hs : s < 2 ^ cs.length) (hT : Tab w) :
    Calls Tryd.prog 33 #[v, .int .i64 s] w fun e w' => e = .returned (.tuple #[.int .i64 (closureN cs s : Nat), .int .i64 0]) ∧ Below w.heap.size w w' := by
  have hr0 := hr
  obtain ⟨a, cap, rfl, _, _, _⟩ := hr.open
  have hv := wrapI (closureN cs s) (by have := lt64_of hc.2.1 (closure_lt cs s); omega)
  clear hr
  go_enter Tryd.func33, Tryd.ntmps33
  go_wp2_with fail
  refine (both_yes _ cs s _ hr0 hc hsp hs hT).mono ?_
  rintro e w1 ⟨rfl, hb1⟩
  obtain ⟨hs1, hb2⟩ := lay_sp hb1 cs.length (cell cs)
  have hT2 := hT.below hb2
  go_wp2_with fail
  generalize hW : World.alloc w1 _ = W at *
  clear hW
  obtain ⟨d0, d1, d2, d3, d4, d5, d6⟩ := hs1.cells
  clear hs1
  go_wp2_with fail
  refine (closure_any cs s _ hc hs hT2).mono ?_
  rintro e w2 ⟨rfl, hb3⟩
  go_wp2_with fail
  go_ret2
  exact ⟨rfl, below_to hb2 hb2.size hb3⟩

set_option maxRecDepth 100000 in
theorem Closure_no (v : Value) (l : List Int) (code : Int) (w : World) (hr : Reads w v l) (h : (spL l && setB l.length code) = false) (hT : Tab w) :
    Calls Tryd.prog 33 #[v, .int .i64 code] w fun e w' => e = .returned (.tuple #[.int .i64 0, .int .i64 2]) ∧ Below w.heap.size w w' := by
  have hr0 := hr
  obtain ⟨a, cap, rfl, _, _, _⟩ := hr.open
  clear hr
  go_enter Tryd.func33, Tryd.ntmps33
  go_wp2_with fail
  refine (both_no _ l code _ hr0 h hT).mono ?_
  rintro e w1 ⟨n, c, u, rfl, hb1⟩
  obtain ⟨hs1, hb2⟩ := lay_sp hb1 n c
  go_wp2_with fail
  go_ret2
  exact ⟨rfl, hb2⟩

def edgeN (cs : List Nat) (s : Nat) : Nat := diff (closureN cs s) (insideN cs s)
end Go.Proofs.YtmagkcioplcidaeDoor

/- Appends of ints that leave blocks of other types. -/
set_option linter.unusedVariables false
set_option linter.unusedSimpArgs false
namespace Go.Proofs.YtmagkcioplcidaeDoor
open Go.RowKit

/-- blocks that hold no ints are as they were -/
def KeepNI (w w' : World) : Prop := ∀ (k : Nat) (o : Obj), w.heap[k]? = some o → (∀ cs fr, o ≠ .cells cs 3 fr) → w'.heap[k]? = some o
theorem KeepNI.sp {w w' : World} {b n : Nat} {c : Nat → Nat} (h : KeepNI w w') (hs : SpF w b n c) : SpF w' b n c := h b _ hs (fun cs fr e => by
  injection e with _ h2 _
  exact absurd h2 (by decide))
theorem KeepNI.set {w w' : World} {b : Nat} {c : Array Value} (h : KeepNI w w') (hs : w.heap[b]? = some (.cells c 38)) : w'.heap[b]? = some (.cells c 38) := h b _ hs (fun cs fr e => by
  injection e with _ h2 _
  exact absurd h2 (by decide))
theorem Col.notInt {w0 w : World} {v : Value} {xs : List Int} (h : Col w0 w v xs) : ∀ r, v.ownBlock = some r → ∃ cs fr, w.heap[r]? = some (.cells cs 3 fr) := by
  intro r hr
  obtain ⟨_, h1 | ⟨g, cap, cur, h1, hb, hg, hn, hm, hc, ht⟩⟩ := h.own
  · rw [h1.1] at hr; cases hr
  · rw [h1] at hr; cases hr; exact ⟨_, _, hg⟩

theorem append_intK {ops : Array Oper} {rest : List Oper} {o : Oper} {a : Act} {w0 w : World} {Q : Exit → Act → World → Prop} (hgd : o.guard = none) (s x : Operand)
    (ho : o.op = .call { callee := .builtin .append, args := #[s, x], argTypes := #[22, 22] }) {v : Value} {xs : List Int} (hc : Col w0 w v xs) (hs : a.eval s = v)
    (y : Int) (hx : a.eval x = .slice (some ⟨w.heap.size, 0, none⟩) 1 1) (hlen : xs.length ≤ 1000000000)
    (h : ∀ v' w', Col w0 w' v' (xs ++ [y]) → v' ≠ .slice none 0 0 → KeepNI w w' → wpList Tryd.prog ops Q rest (a.put o.dst v') w') : wpList Tryd.prog ops Q (o :: rest) a (w.alloc (.cells #[.int .i64 y] 3)) := by
  obtain ⟨i0, hi, hz0, hz1, hz2⟩ := info_parts infoInt
  refine wpList_append_own _ hgd s x 22 ho w0.heap.size 3 i0 (.int .i64 0) 1 8 Tryd.underlying22 hi hz0 hz1 hz2 rfl (by decide) v xs.length (xs.map (Value.int .i64)) hs (hc.own.alloc _) ⟨w.heap.size, 0, none⟩ 1 1 [.int .i64 y] hx rfl (cell_one_new _ _ _) (by simp [Value.oneCell']) (by simp only [maxLen]; omega) (by omega) (by have := hc.below.size; simp; omega) ?_
  intro v' w' hown' hgrow hnil
  refine h v' w' ⟨by simpa using hown', ?_⟩ (fun e => by simpa using (hnil.1 e).2) ?_
  · refine (hc.below.alloc hc.below.size _).grown hgrow (by have := hc.below.size; simp; omega) ?_
    intro k hk
    exact (World.ownsRow.lt (hc.own.alloc (.cells #[.int .i64 y] 3)) k hk.symm.symm).1
  · intro k o' hk hno
    have hk2 : (w.alloc (.cells #[.int .i64 y] 3)).heap[k]? = some o' := alloc_old hk
    refine (hgrow.block k (heap_lt hk2) (fun e => ?_)).trans hk2
    obtain ⟨cs, fr, hr⟩ := hc.notInt k e.symm
    rw [hk] at hr
    exact hno cs fr (Option.some.inj hr)
end Go.Proofs.YtmagkcioplcidaeDoor
