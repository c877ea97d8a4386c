/- ply: spaces as values and in memory; within, all. -/
import Derived.Test.YtfhcbaamibipcaaDoorPts
set_option linter.unusedVariables false
set_option linter.unusedSimpArgs false
namespace Go.Proofs.YtfhcbaamibipcaaDoor
open Go.RowKit

/-- a space as a value -/
abbrev spF (n : Nat) (c : Nat → Nat) : Value := .agg #[.int .i64 n, .int .u64 (c 0), .int .u64 (c 1), .int .u64 (c 2), .int .u64 (c 3), .int .u64 (c 4), .int .u64 (c 5)]
abbrev spV (cs : List Nat) : Value := .agg #[.int .i64 cs.length, .int .u64 (cell cs 0), .int .u64 (cell cs 1), .int .u64 (cell cs 2), .int .u64 (cell cs 3), .int .u64 (cell cs 4), .int .u64 (cell cs 5)]
/-- a space in memory -/
def SpF (w : World) (b : Nat) (n : Nat) (c : Nat → Nat) : Prop := w.heap[b]? = some (.cells #[.int .i64 n, .int .u64 (c 0), .int .u64 (c 1), .int .u64 (c 2), .int .u64 (c 3), .int .u64 (c 4), .int .u64 (c 5)] 35)
abbrev SpAt (w : World) (b : Nat) (cs : List Nat) : Prop := SpF w b cs.length (cell cs)
theorem SpF.cell {w : World} {b n : Nat} {c : Nat → Nat} (h : SpF w b n c) {p : Nat} (hp : p < 6) : w.cell? ⟨b, 1 + p, none⟩ = some (.int .u64 (c p)) := by
  have e : p = 0 ∨ p = 1 ∨ p = 2 ∨ p = 3 ∨ p = 4 ∨ p = 5 := by omega
  rcases e with rfl | rfl | rfl | rfl | rfl | rfl <;> exact cell_of h rfl
theorem SpF.n {w : World} {b n : Nat} {c : Nat → Nat} (h : SpF w b n c) : w.cell? ⟨b, 0, none⟩ = some (.int .i64 n) := cell_of h rfl
theorem SpF.below {w w' : World} {b n : Nat} {c : Nat → Nat} (h : SpF w b n c) (hb : Below w.heap.size w w') : SpF w' b n c := (hb.block b (heap_lt h)).trans h
theorem SpF.drewN {w : World} {b n : Nat} {c : Nat → Nat} (h : SpF w b n c) (k : Nat) : SpF (w.drewN k) b n c := (heap_drewN _ _ _).trans h
theorem SpF.lt {w : World} {b n : Nat} {c : Nat → Nat} (h : SpF w b n c) : b < w.heap.size := heap_lt h
theorem SpF.free {w : World} {b n : Nat} {c : Nat → Nat} (h : SpF w b n c) (j : Nat) : w.frozen? ⟨b, j, none⟩ = false := free_of h j
theorem SpF.other {w : World} {b n k j : Nat} {c : Nat → Nat} {u : Value} (h : SpF w b n c) (hne : b ≠ k) : SpF (w.setCell ⟨k, j, none⟩ u) b n c := (heap_setCell_other _ _ _ _ hne).trans h
theorem SpF.set {w : World} {b n p v : Nat} {c c' : Nat → Nat} (h : SpF w b n c) (hp : p < 6) (hc : ∀ j, j < 6 → c' j = if j = p then v else c j) : SpF (w.setCell ⟨b, 1 + p, none⟩ (.int .u64 v)) b n c' := by
  have h0 := hc 0 (by omega)
  have h1 := hc 1 (by omega)
  have h2 := hc 2 (by omega)
  have h3 := hc 3 (by omega)
  have h4 := hc 4 (by omega)
  have h5 := hc 5 (by omega)
  have e : p = 0 ∨ p = 1 ∨ p = 2 ∨ p = 3 ∨ p = 4 ∨ p = 5 := by omega
  have hh := heap_setCell_same _ _ (1 + p) _ _ (Value.int .u64 v) h
  unfold SpF
  rw [hh]
  rcases e with rfl | rfl | rfl | rfl | rfl | rfl <;> simp_all
theorem SpF.cells {w : World} {b n : Nat} {c : Nat → Nat} (h : SpF w b n c) : w.cell? ⟨b, 0, none⟩ = some (.int .i64 n) ∧ w.cell? ⟨b, 1, none⟩ = some (.int .u64 (c 0)) ∧ w.cell? ⟨b, 2, none⟩ = some (.int .u64 (c 1)) ∧ w.cell? ⟨b, 3, none⟩ = some (.int .u64 (c 2)) ∧
    w.cell? ⟨b, 4, none⟩ = some (.int .u64 (c 3)) ∧ w.cell? ⟨b, 5, none⟩ = some (.int .u64 (c 4)) ∧ w.cell? ⟨b, 6, none⟩ = some (.int .u64 (c 5)) :=
  ⟨cell_of h rfl, cell_of h rfl, cell_of h rfl, cell_of h rfl, cell_of h rfl, cell_of h rfl, cell_of h rfl⟩
/-- .. and stored -/
theorem SpF.store {w : World} {b n n' : Nat} {c : Nat → Nat} (c' : Nat → Nat) (h : SpF w b n c) :
    SpF (((((((w.setCell ⟨b, 0, none⟩ (.int .i64 n')).setCell ⟨b, 1, none⟩ (.int .u64 (c' 0))).setCell ⟨b, 2, none⟩ (.int .u64 (c' 1))).setCell ⟨b, 3, none⟩ (.int .u64 (c' 2))).setCell ⟨b, 4, none⟩ (.int .u64 (c' 3))).setCell ⟨b, 5, none⟩ (.int .u64 (c' 4))).setCell ⟨b, 6, none⟩ (.int .u64 (c' 5))) b n' c' := by
  have h1 := heap_setCell_same _ _ 0 _ _ (Value.int .i64 n') h
  have h2 := heap_setCell_same _ _ 1 _ _ (Value.int .u64 (c' 0)) h1
  have h3 := heap_setCell_same _ _ 2 _ _ (Value.int .u64 (c' 1)) h2
  have h4 := heap_setCell_same _ _ 3 _ _ (Value.int .u64 (c' 2)) h3
  have h5 := heap_setCell_same _ _ 4 _ _ (Value.int .u64 (c' 3)) h4
  have h6 := heap_setCell_same _ _ 5 _ _ (Value.int .u64 (c' 4)) h5
  have h7 := heap_setCell_same _ _ 6 _ _ (Value.int .u64 (c' 5)) h6
  unfold SpF
  rw [h7]
  simp
theorem _root_.Go.RowKit.Below.set7 {w0 w : World} {b : Nat} (h : Below w0.heap.size w0 w) (hb : w0.heap.size ≤ b) (v0 v1 v2 v3 v4 v5 v6 : Value) :
    Below w0.heap.size w0 (((((((w.setCell ⟨b, 0, none⟩ v0).setCell ⟨b, 1, none⟩ v1).setCell ⟨b, 2, none⟩ v2).setCell ⟨b, 3, none⟩ v3).setCell ⟨b, 4, none⟩ v4).setCell ⟨b, 5, none⟩ v5).setCell ⟨b, 6, none⟩ v6) :=
  ((((((h.setCell (p := ⟨b, 0, none⟩) hb _).setCell (p := ⟨b, 1, none⟩) hb _).setCell (p := ⟨b, 2, none⟩) hb _).setCell (p := ⟨b, 3, none⟩) hb _).setCell (p := ⟨b, 4, none⟩) hb _).setCell (p := ⟨b, 5, none⟩) hb _).setCell (p := ⟨b, 6, none⟩) hb _
theorem SpF.other7 {w : World} {b n k : Nat} {c : Nat → Nat} (h : SpF w b n c) (hne : b ≠ k) (v0 v1 v2 v3 v4 v5 v6 : Value) :
    SpF (((((((w.setCell ⟨k, 0, none⟩ v0).setCell ⟨k, 1, none⟩ v1).setCell ⟨k, 2, none⟩ v2).setCell ⟨k, 3, none⟩ v3).setCell ⟨k, 4, none⟩ v4).setCell ⟨k, 5, none⟩ v5).setCell ⟨k, 6, none⟩ v6) b n c :=
  ((((((h.other hne).other hne).other hne).other hne).other hne).other hne).other hne
/-- .. and loaded -/
theorem SpF.load {w : World} {b n : Nat} {c : Nat → Nat} (h : SpF w b n c) : (loadVar 35 ⟨b, 0, none⟩).run Tryd.prog w = .ok (spF n c) w := by
  have c0 := cell_of h (j := 0) rfl
  have c1 := cell_of h (j := 1) rfl
  have c2 := cell_of h (j := 2) rfl
  have c3 := cell_of h (j := 3) rfl
  have c4 := cell_of h (j := 4) rfl
  have c5 := cell_of h (j := 5) rfl
  have c6 := cell_of h (j := 6) rfl
  unfold loadVar
  go_simp

/-- results, of which the first is a space in memory -/
theorem results_sp {P : Program} {fn : Func} {p : Tmp} {ty : TypeId} {tmps : Array Value} {w : World} {a : Addr} {v : Value} (h : fn.results = #[.cell p ty]) (hp : tmps.getD p undef = .pointer (some a)) (hl : (loadVar ty a).run P w = .ok v w) : (results fn tmps).run P w = .ok v w := by
  have hp' : tmps[p]?.getD undef = .pointer (some a) := by simpa using hp
  simp [results, h, hp', asAddr, hl]
theorem results_sp2 {P : Program} {fn : Func} {p q : Tmp} {ty : TypeId} {tmps : Array Value} {w : World} {a : Addr} {v : Value} (h : fn.results = #[.cell p ty, .tmp q]) (hp : tmps.getD p undef = .pointer (some a)) (hl : (loadVar ty a).run P w = .ok v w) : (results fn tmps).run P w = .ok (.tuple #[v, tmps.getD q undef]) w := by
  have hp' : tmps[p]?.getD undef = .pointer (some a) := by simpa using hp
  simp [results, h, hp', asAddr, hl]
theorem results_sp3 {P : Program} {fn : Func} {p q r : Tmp} {ty : TypeId} {tmps : Array Value} {w : World} {a : Addr} {v : Value} (h : fn.results = #[.cell p ty, .tmp q, .tmp r]) (hp : tmps.getD p undef = .pointer (some a)) (hl : (loadVar ty a).run P w = .ok v w) : (results fn tmps).run P w = .ok (.tuple #[v, tmps.getD q undef, tmps.getD r undef]) w := by
  have hp' : tmps[p]?.getD undef = .pointer (some a) := by simpa using hp
  simp [results, h, hp', asAddr, hl]

def withinB (n lo hi : Int) : Bool := decide (lo ≤ n) && decide (n ≤ hi)
theorem withinB_iff {n lo hi : Int} : withinB n lo hi = true ↔ lo ≤ n ∧ n ≤ hi := by simp [withinB]
theorem within_any (n lo hi : Int) (w : World) :
    Calls Tryd.prog 30 #[.int .i64 n, .int .i64 lo, .int .i64 hi] w fun e w' => e = .returned (.bool (withinB n lo hi)) ∧ w = w' := by
  by_cases h : lo ≤ n
  all_goals
    go_enter Tryd.func30, Tryd.ntmps30
    go_wp2
    go_ret
    exact ⟨ret_bool (by unfold withinB; simp; try omega), rfl⟩

theorem all_num (n : Nat) (hn : n ≤ 6) : IntKind.u64.wrap (IntKind.u64.wrap (2 ^ n) - 1) = (allN n : Nat) := by
  have h : n = 0 ∨ n = 1 ∨ n = 2 ∨ n = 3 ∨ n = 4 ∨ n = 5 ∨ n = 6 := by omega
  rcases h with rfl | rfl | rfl | rfl | rfl | rfl | rfl <;> decide
theorem all_any (cs : List Nat) (w : World) (hn : cs.length ≤ 6) :
    Calls Tryd.prog 18 #[spV cs] w fun e w' => e = .returned (.int .u64 (allN cs.length : Nat)) ∧ Below w.heap.size w w' := by
  have hz := Lib.hid (all_num cs.length hn)
  go_enter Tryd.func18, Tryd.ntmps18
  go_wp2_with fail
  go_ret
  exact ⟨ret_int hz.out, (Below.refl _ _).alloc (Nat.le_refl _) _⟩
end Go.Proofs.YtfhcbaamibipcaaDoor
