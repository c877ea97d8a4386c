/- A function that ranges over iterators in a loop leaves with many marks. -/
import Derived.Test.YtfjbggodniemeaaPair0
import Derived.RangeFuncLeaves
set_option linter.unusedVariables false
set_option linter.unusedSimpArgs false
namespace Go.Proofs.Ytfjbggodniemeaa
open Go.RowKit

/-- marks of range statements, from block B up to block U, the later ones first -/
def Marks (B : Nat) : Nat → List Deferred → World → Prop
  | _, [], _ => True
  | U, d :: ds, w => ∃ D, B ≤ D ∧ D < U ∧ d = { target := .collected D, args := #[] } ∧ w.heap[D]? = some (.deferred (some [])) ∧ Marks B D ds w
theorem Marks.mono {B : Nat} : ∀ {U U' : Nat} {ds : List Deferred} {w : World}, Marks B U ds w → U ≤ U' → Marks B U' ds w
  | _, _, [], _, _, _ => trivial
  | _, _, _ :: _, _, ⟨D, h1, h2, h3⟩, h => ⟨D, h1, Nat.lt_of_lt_of_le h2 h, h3⟩
theorem Marks.keep {B : Nat} {w w' : World} : ∀ {U : Nat} {ds : List Deferred}, (∀ k, B ≤ k → k < U → w.heap[k]? = some (.deferred (some [])) → w'.heap[k]? = some (.deferred (some []))) → Marks B U ds w → Marks B U ds w'
  | _, [], _, _ => trivial
  | _, _ :: _, hk, ⟨D, h1, h2, h3, h4, h5⟩ => ⟨D, h1, h2, h3, hk D h1 h2 h4, Marks.keep (fun k hB hU => hk k hB (Nat.lt_trans hU h2)) h5⟩
theorem Marks.keepsFrom {B U : Nat} {ds : List Deferred} {w w' : World} (h : Marks B U ds w) (hk : KeepsFrom B w w') : Marks B U ds w' := h.keep fun k hB _ hd => hk.same k _ hB hd rfl
theorem Marks.below {B U : Nat} {ds : List Deferred} {w w' : World} (h : Marks B U ds w) (hb : Below w.heap.size w w') : Marks B U ds w' := h.keep fun k _ _ hd => (hb.block k (heap_lt hd)).trans hd
theorem Marks.grown {B U : Nat} {ds : List Deferred} {w w' : World} {row : Option Nat} (h : Marks B U ds w) (hg : w.grownBy w' row) (hr : ∀ r, row = some r → U ≤ r) : Marks B U ds w' := h.keep fun k _ hU hd => (hg.block k (heap_lt hd) (fun e => by have := hr k e.symm; omega)).trans hd
theorem Marks.setCell {B U : Nat} {ds : List Deferred} {w : World} (h : Marks B U ds w) (b j : Nat) (v : Value) : Marks B U ds (w.setCell ⟨b, j, none⟩ v) := h.keepsFrom ((KeepsOthers.setCell _ _ _).from _)
theorem Marks.add {B U : Nat} {ds : List Deferred} {w : World} (h : Marks B U ds w) {D : Nat} (hB : B ≤ D) (hU : U ≤ D) (hD : w.heap[D]? = some (.deferred (some []))) : Marks B (D + 1) ({ target := .collected D, args := #[] } :: ds) w :=
  ⟨D, hB, Nat.lt_succ_self D, rfl, hD, h.mono hU⟩

/-- the marks are shut, cells are as they were -/
structure MShut (B : Nat) (w w' : World) : Prop where
  below : Below B w w'
  keep : ∀ (k : Nat) (cs : Array Value) (t : TypeId) (fr : Nat × Nat), w.heap[k]? = some (Obj.cells cs t fr) → w'.heap[k]? = some (Obj.cells cs t fr)
theorem MShut.refl (B : Nat) (w : World) : MShut B w w := ⟨Below.refl _ _, fun _ _ _ _ h => h⟩
theorem leave_marks {B : Nat} {P : Program} {F : Fence} {n : Nat} {fn : Func} {tmps : Array Value} {R : Ending → World → Prop} : ∀ (ds : List Deferred) (U : Nat) (w : World), Marks B U ds w →
    (∀ w', MShut B w w' → ∃ v, (results fn tmps).run P w' = .ok v w' ∧ R (.returned v) w') → LeavesInM F n P fn tmps R ds .returning w
  | [], U, w, _, h => by
    obtain ⟨v, h1, h2⟩ := h w (MShut.refl _ _)
    exact ⟨v, h1, h2⟩
  | d :: ds, U, w, ⟨D, h1, h2, h3, h4, h5⟩, h => by
    subst h3
    refine ⟨by simp, .inl ⟨_, _, rfl, run_takeDeferred h4, ?_⟩⟩
    have hb : Below B w (w.putObj D (.deferred none)) := ⟨rfl, rfl, rfl, by simp [World.putObj], fun k hk => putObj_other rfl (by omega)⟩
    refine leave_marks ds D _ (h5.keep fun k _ hlt hk => putObj_other hk (by omega)) fun w' hs => h w' ⟨hb.trans hs.below, fun k cs t fr hk => hs.keep k cs t fr (putObj_other hk (fun e => ?_))⟩
    subst e
    rw [h4] at hk
    cases hk
end Go.Proofs.Ytfjbggodniemeaa
