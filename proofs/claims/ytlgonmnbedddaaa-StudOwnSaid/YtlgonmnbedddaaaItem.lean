/- Item. -/
import Derived.Test.YtlgonmnbedddaaaCnt
import Derived.Test.YtlgonmnbedddaaaLens
set_option linter.unusedVariables false
set_option linter.unusedSimpArgs false
namespace Go.Proofs.Ytlgonmnbedddaaa
open Go.RowKit Go.Shelf
attribute [local go_sem] Oper.semAt_some

theorem results_cell2 {P : Program} {fn : Func} {p1 p2 : Tmp} {t1 t2 : TypeId} (h : fn.results = #[.cell p1 t1, .cell p2 t2]) {tmps : Array Value} {w : World} {g1 g2 : Nat} {v1 v2 : Value}
    (h1 : tmps.getD p1 undef = .pointer (some ⟨g1, 0, none⟩)) (h2 : tmps.getD p2 undef = .pointer (some ⟨g2, 0, none⟩))
    (l1 : (loadVar t1 ⟨g1, 0, none⟩).run P w = .ok v1 w) (l2 : (loadVar t2 ⟨g2, 0, none⟩).run P w = .ok v2 w) : (results fn tmps).run P w = .ok (.tuple #[v1, v2]) w := by
  have h1' : tmps[p1]?.getD undef = .pointer (some ⟨g1, 0, none⟩) := by simpa using h1
  have h2' : tmps[p2]?.getD undef = .pointer (some ⟨g2, 0, none⟩) := by simpa using h2
  simp [results, h, h1', h2', asAddr, l1, l2]

theorem cell_isCells {W : World} {b i : Nat} {v : Value} (h : W.cell? ⟨b, i, none⟩ = some v) : ∃ o : Obj, W.heap[b]? = some o ∧ o.isCells = true := by
  unfold World.cell? at h
  rcases ho : W.heap[b]? with _ | o
  · simp [ho] at h
  · refine ⟨o, rfl, ?_⟩
    cases o <;> simp_all [Obj.isCells]
theorem Reads.grown {W W' : World} {v : Value} {xs : List Int} {row : Option Nat} {B : Nat} (h : Reads W v xs) (hg : W.grownBy W' row) (hr : ∀ r, row = some r → B ≤ r ∧ ∃ o : Obj, W.heap[r]? = some o ∧ o.isCells = false) : Reads W' v xs := by
  obtain ⟨a, cap, rfl, h1, h2, h3⟩ := h
  refine ⟨a, cap, rfl, h1, h2, h3.imp id ?_⟩
  rintro ⟨b, off, rfl, hlt, hc⟩
  refine ⟨b, off, rfl, Nat.lt_of_lt_of_le hlt hg.size, fun j hj => ?_⟩
  obtain ⟨o, ho, hoc⟩ := cell_isCells (hc j hj)
  have hb : W'.heap[b]? = W.heap[b]? := hg.block b hlt (fun e => by
    obtain ⟨o2, ho2, hc2⟩ := (hr b e.symm).2
    rw [ho] at ho2; cases ho2; rw [hoc] at hc2; cases hc2)
  rw [World.cell?_of_block (w := W) (a := ⟨b, off + j, none⟩) hb]
  exact hc j hj
theorem Reads.setCell {W : World} {v : Value} {xs : List Int} {B : Nat} {u : Value} {X : Nat → Prop} (h : ReadsS (fun b => b < W.heap.size ∧ ¬ X b) W v xs) (hB : X B) : ReadsS (fun b => b < (W.setCell ⟨B, 0, none⟩ u).heap.size ∧ ¬ X b) (W.setCell ⟨B, 0, none⟩ u) v xs :=
  Reads.keepX h ⟨by simp, fun b hb hx => heap_setCell_other _ _ _ _ (fun e => hx (e ▸ hB))⟩
theorem Given2.grown {X : Nat → Prop} {W W' : World} {v : Value} {xs : List Int} {row : Option Nat} {B : Nat} (h : Given2 X W v xs) (hg : W.grownBy W' row) (hr : ∀ r, row = some r → B ≤ r ∧ ∃ o : Obj, W.heap[r]? = some o ∧ o.isCells = false) : Given2 X W' v xs := by
  obtain ⟨a, cap, rfl, h1, h2, h3⟩ := h
  refine ⟨a, cap, rfl, h1, h2, h3.imp id ?_⟩
  rintro ⟨b, off, rfl, hlt, hc⟩
  refine ⟨b, off, rfl, ⟨Nat.lt_of_lt_of_le hlt.1 hg.size, hlt.2⟩, fun j hj => ?_⟩
  obtain ⟨o, ho, hoc⟩ := cell_isCells (hc j hj)
  have hb : W'.heap[b]? = W.heap[b]? := hg.block b hlt.1 (fun e => by
    obtain ⟨o2, ho2, hc2⟩ := (hr b e.symm).2
    rw [ho] at ho2; cases ho2; rw [hoc] at hc2; cases hc2)
  rw [World.cell?_of_block (w := W) (a := ⟨b, off + j, none⟩) hb]
  exact hc j hj

/-- two results are laid into their cells -/
theorem put2 {X : Nat → Prop} {W : World} {r1 r2 : Nat} {a1 a2 : Value} {t1 t2 : TypeId} (h1 : W.heap[r1]? = some (.cells #[a1] t1)) (h2 : W.heap[r2]? = some (.cells #[a2] t2)) (hne : r1 ≠ r2) (hx1 : X r1) (hx2 : X r2) (u1 u2 : Value) :
    KeepsOthers W ((W.setCell ⟨r1, 0, none⟩ u1).setCell ⟨r2, 0, none⟩ u2) ∧ KeepX X W ((W.setCell ⟨r1, 0, none⟩ u1).setCell ⟨r2, 0, none⟩ u2) ∧
      ((W.setCell ⟨r1, 0, none⟩ u1).setCell ⟨r2, 0, none⟩ u2).heap[r1]? = some (.cells #[u1] t1) ∧ ((W.setCell ⟨r1, 0, none⟩ u1).setCell ⟨r2, 0, none⟩ u2).heap[r2]? = some (.cells #[u2] t2) := by
  refine ⟨(KeepsOthers.setCell _ _ _).trans (KeepsOthers.setCell _ _ _), ⟨by simp, fun b hb hx => ?_⟩, set_other (set_same h1) hne, set_same (set_other h2 (fun e => hne e.symm))⟩
  have n1 : b ≠ r1 := fun e => hx (by rw [e]; exact hx1)
  have n2 : b ≠ r2 := fun e => hx (by rw [e]; exact hx2)
  exact (heap_setCell_other _ ⟨r2, 0, none⟩ _ _ n2).trans (heap_setCell_other _ ⟨r1, 0, none⟩ _ _ n1)
theorem Given2.reads {X : Nat → Prop} {W : World} {v : Value} {xs : List Int} (h : Given2 X W v xs) : Reads W v xs := ReadsS.reads h (fun b h => h.1)

/-- what Item answers -/
def itemL (n k : Nat) : List Int := (clearsL n [])[k]?.getD []
def itemE (n k : Nat) : Int := if k < (clearsL n []).length then 0 else 2

/-- a slice that is read, a number behind it, the heap below as it was -/
def RetReads (w : World) (xs : List Int) (err : Int) (e : Ending) (w' : World) : Prop := ∃ v, e = .returned (.tuple #[v, .int .i64 err]) ∧ Reads w' v xs ∧ Below w.heap.size w w'

theorem reads_putDeferred {W : World} {v : Value} {xs : List Int} {D : Nat} {o : Obj} (h : Reads W v xs) (hD : W.heap[D]? = some (.deferred (some []))) : Reads (W.putObj D o) v xs :=
  h.grown (B := 0) (grownBy_putObj' W D o) (fun r e => by cases e; exact ⟨Nat.zero_le _, _, hD, rfl⟩)

/-- what Item answers, for any ints -/
def itemS (n k : Int) : List Int × Int := if (withinB n 1 7 && decide (0 ≤ k)) = true then (itemL n.toNat k.toNat, itemE n.toNat k.toNat) else ([], 2)
theorem RetReads.nil {w w' : World} {e : Int} (h : Below w.heap.size w w') : RetReads w [] e (.returned (.tuple #[.slice none 0 0, .int .i64 e])) w' := ⟨_, rfl, Reads.nil _, h⟩

end Go.Proofs.Ytlgonmnbedddaaa
