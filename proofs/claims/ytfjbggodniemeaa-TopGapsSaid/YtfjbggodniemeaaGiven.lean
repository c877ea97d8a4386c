/- A range statement over an iterator that hands over what the body is told of: an element together with what holds of it in the world of its round. -/
import Derived.Test.YtfjbggodniemeaaBase
import Derived.RangeFuncNested
import Derived.RangeFuncBound
import Derived.RangeFuncCalls
import Derived.RangeFuncLeaves
set_option linter.unusedVariables false
set_option linter.unusedSimpArgs false
namespace Go.Proofs.Ytfjbggodniemeaa
open Go.RowKit

/-- the blocks that were there are as they were, but for those of X -/
def KeepX (X : Nat → Prop) (W W' : World) : Prop := W.heap.size ≤ W'.heap.size ∧ ∀ b, b < W.heap.size → ¬ X b → W'.heap[b]? = W.heap[b]?
theorem KeepX.refl (X : Nat → Prop) (W : World) : KeepX X W W := ⟨Nat.le_refl _, fun _ _ _ => rfl⟩
theorem KeepX.trans {X : Nat → Prop} {A B C : World} (h : KeepX X A B) (k : KeepX X B C) : KeepX X A C := ⟨Nat.le_trans h.1 k.1, fun b hb hx => (k.2 b (Nat.lt_of_lt_of_le hb h.1) hx).trans (h.2 b hb hx)⟩
theorem KeepX.of_below {X : Nat → Prop} {A B : World} (h : Below A.heap.size A B) : KeepX X A B := ⟨h.size, fun b hb _ => h.block b hb⟩
theorem KeepX.putObj {X : Nat → Prop} {W : World} {l : Nat} {o : Obj} (h : X l) : KeepX X W (W.putObj l o) := ⟨by simp [World.putObj], fun b hb hx => by
  have : ¬ l = b := fun e => hx (e ▸ h)
  simp [World.putObj, Array.getElem?_setIfInBounds, this]⟩
theorem KeepX.cell {X : Nat → Prop} {A B : World} (h : KeepX X A B) {p : Addr} (hp : p.block < A.heap.size) (hx : ¬ X p.block) : B.cell? p = A.cell? p := World.cell?_of_block (h.2 _ hp hx)
theorem KeepX.block {X : Nat → Prop} {A B : World} (h : KeepX X A B) {k : Nat} {o : Obj} (hk : A.heap[k]? = some o) (hx : ¬ X k) : B.heap[k]? = some o := (h.2 k (heap_lt hk) hx).trans hk
theorem Reads.keepX {X : Nat → Prop} {A B : World} {v : Value} {xs : List Int} (h : ReadsS (fun b => b < A.heap.size ∧ ¬ X b) A v xs) (hk : KeepX X A B) : ReadsS (fun b => b < B.heap.size ∧ ¬ X b) B v xs := by
  obtain ⟨a, cap, rfl, h1, h2, h3⟩ := h
  refine ⟨a, cap, rfl, h1, h2, h3.imp id ?_⟩
  rintro ⟨b, off, rfl, hlt, hc⟩
  exact ⟨b, off, rfl, ⟨Nat.lt_of_lt_of_le hlt.1 hk.1, hlt.2⟩, fun j hj => (hk.cell (p := ⟨b, off + j, none⟩) hlt.1 hlt.2).trans (hc j hj)⟩
theorem below_grown0 {W W' : World} (h : Below W.heap.size W W') : W.grownBy W' none := ⟨h.os, h.tape, h.output, h.size, fun k hk _ => h.block k hk⟩

section
variable {α : Type} {n : Nat} {P : Program}

/-- the contract of an iterator: at each call of yield, Px holds of what came before, of the element and of the world -/
def Given (n : Nat) (P : Program) (gf : Nat) (lb : Array Value) (encs : α → Array Value) (Kp : World → World → Prop) (S Sp : List α → Prop) (Px : List α → α → World → Prop) (w : World) : Prop :=
  ∀ (l : Nat) (J Jx : List α → World → Prop) (W : World), Below w.heap.size w W → w.heap.size + 2 ≤ W.heap.size → AbidesFrom W.heap.size J → AbidesFrom W.heap.size Jx →
    (∀ pre x W1, J pre W1 → Px pre x W1 → YieldAt Fence.wide (n - 1) P l (encs x) W1 fun e W' => (e = .returned (.bool true) ∧ J (pre ++ [x]) W' ∧ Kp W1 W') ∨ (e = .returned (.bool false) ∧ Jx (pre ++ [x]) W' ∧ Kp W1 W')) →
    J [] W → CallsIn Fence.wide n P gf (#[.func (.yield l) #[] #[]] ++ lb) W fun e W' => (∃ v, e = .returned v) ∧ ((∃ xs, S xs ∧ J xs W') ∨ (∃ pre, Sp pre ∧ Jx pre W'))

/-- how a round may be left -/
def roundPostK (B : Nat) (Kp : World → World → Prop) (I : List α → World → Prop) (Ix : Code → List α → World → Prop) (xs : List α) (W : World) : Exit → Act → World → Prop
  | .normal, _, W' => KeepsFrom B W W' ∧ Kp W W' ∧ I xs W'
  | .ret, _, W' => KeepsFrom B W W' ∧ Kp W W' ∧ Ix .ret xs W'
  | .exit id, _, W' => KeepsFrom B W W' ∧ Kp W W' ∧ Ix (.exit id) xs W'
  | _, _, _ => False

/-- what the record of the loop and the block of the deferred calls hold between two rounds -/
def Books (w : World) (r : Loop) (W : World) : Prop := W.heap[w.heap.size + 1]? = some (.loop r) ∧ W.heap[w.heap.size]? = some (.deferred (some []))

theorem Books.abides {w W1 : World} {r : Loop} {A B : World} {row : Option Nat} (h : Books w r A) (hg : A.grownBy B row) (hr : ∀ k, row = some k → W1.heap.size ≤ k ∧ ∃ o : Obj, A.heap[k]? = some o ∧ o.isWalk = true) : Books w r B :=
  ⟨(grownBy_keeps hg (fun r e => (hr r e).2) h.1 rfl).trans h.1, (grownBy_keeps hg (fun r e => (hr r e).2) h.2 rfl).trans h.2⟩
theorem Books.keeps {w : World} {r : Loop} {A B : World} (h : Books w r A) (hk : KeepsFrom w.heap.size A B) : Books w r B := ⟨hk.same _ _ (by omega) h.1 rfl, hk.same _ _ (Nat.le_refl _) h.2 rfl⟩
theorem Books.turn {w : World} {r : Loop} {A : World} (h : Books w r A) (r' : Loop) : Books w r' (A.putObj (w.heap.size + 1) (.loop r')) :=
  ⟨World.putObj_heap_same (Array.getElem?_eq_some_iff.1 h.1).1, (World.putObj_heap_other (by omega)).trans h.2⟩

theorem range_given {g : Operand} {ps : Array Tmp} {assign body : Code} {Q : Exit → Act → World → Prop} {a : Act} {w : World}
    {gf : Nat} {lb : Array Value} (hg : a.eval g = .func (.func gf) #[] lb) (eg : ∀ args w, (callFunc gf args).run P w = .ok (.enter gf args) w)
    {encs : α → Array Value} {Kp : World → World → Prop} {S Sp : List α → Prop} {Px : List α → α → World → Prop} (hseq : Given (n - 1) P gf lb encs Kp S Sp Px w)
    (hKt : ∀ {A B C : World}, Kp A B → Kp B C → Kp A C) (hKb : ∀ (W : World) (o' : Obj), Kp W (W.putObj (w.heap.size + 1) o')) (hps : ∀ x, (encs x).size = ps.size)
    (I : List α → World → Prop) (Ix : Code → List α → World → Prop) (hI : OwnFrom w.heap.size I) (hIx : ∀ c, OwnFrom w.heap.size (Ix c)) (h0 : I [] w)
    (Ax : List α → α → Act → World → Prop) (hAx : ∀ pre x a', OwnFrom w.heap.size (fun (_ : Unit) W => Ax pre x a' W))
    (hassign : ∀ (l : Nat) (pre : List α) (x : α) (W : World) (K : Act → World → Prop), I pre W → Px pre x W → (∀ a' W', KeepsFrom w.heap.size W W' → Kp W W' → I pre W' → Ax pre x a' W' → K a' W') →
      assign.wpIn (Fence.wide.inRound l) (n - 1 - 1) P (Exit.then K (fun _ _ _ => False)) { tmps := (ps.zip (encs x)).foldl (fun t (p, v) => t.setIfInBounds p v) a.tmps, defers := [] } W)
    (hbody : ∀ (l : Nat) (pre : List α) (x : α) (a' : Act) (W : World), w.heap.size ≤ l → (∃ r, W.heap[l]? = some (.loop r)) → I pre W → Ax pre x a' W → body.wpIn (Fence.wide.inRound l) (n - 1 - 1) P (roundPostK w.heap.size Kp I Ix (pre ++ [x]) W) a' W)
    (hdone : ∀ (D : Nat) (xs : List α) (W : World), w.heap.size ≤ D → S xs → I xs W → W.heap[D]? = some (.deferred (some [])) → Q .normal { a with defers := { target := .collected D, args := #[] } :: a.defers } W)
    (hstop : ∀ (D : Nat) (c : Code) (pre : List α) (W : World), w.heap.size ≤ D → Sp pre → Ix c pre W → W.heap[D]? = some (.deferred (some [])) → c.wpIn Fence.wide n P Q { a with defers := { target := .collected D, args := #[] } :: a.defers } W) :
    (Code.rangeFunc g ps assign body).wpIn Fence.wide n P Q a w := by
  refine wpIn_rangeFunc fun fn hfn => ?_
  let rec0 : LoopState → Option Code → Loop := fun st pe => { state := st, pending := pe, fn := fn, tmps := a.tmps, params := ps, assign := assign, body := body, defers := w.heap.size }
  have hB1 : Books w (rec0 .ready none) ((w.alloc (.deferred (some []))).alloc (.loop (rec0 .ready none))) := by
    refine ⟨?_, (heap_alloc_lt _ _ _ (by simp)).trans (heap_alloc_new _ _)⟩
    exact heap_alloc_at _ _ _ (by simp)
  have hsz : ((w.alloc (.deferred (some []))).alloc (.loop (rec0 .ready none))).heap.size = w.heap.size + 2 := by simp
  have hbel : Below w.heap.size w ((w.alloc (.deferred (some []))).alloc (.loop (rec0 .ready none))) := ((Below.refl _ w).alloc (Nat.le_refl _) _).alloc (by simp) _
  have hent := run_enterLoop_outer (P := P) (w := w) fn a.tmps ps assign body
  have own : ∀ {A : World} {row : Option Nat}, (∀ r, row = some r → w.heap.size + 2 ≤ r ∧ ∃ o : Obj, A.heap[r]? = some o ∧ o.isWalk = true) → ∀ r, row = some r → w.heap.size ≤ r ∧ ∃ o : Obj, A.heap[r]? = some o ∧ o.isCells = false :=
    fun hr r e => by obtain ⟨hB, o, ho, hw⟩ := hr r e; exact ⟨by omega, o, ho, Obj.not_cells_of_walk hw⟩
  refine ⟨w.heap.size + 1, [{ target := .collected w.heap.size, args := #[] }], (w.alloc (.deferred (some []))).alloc (.loop (rec0 .ready none)), { target := .fn (.func gf) lb, args := #[.func (.yield (w.heap.size + 1)) #[] #[]] }, (w.alloc (.deferred (some []))).alloc (.loop (rec0 .ready none)), gf,
    #[.func (.yield (w.heap.size + 1)) #[] #[]] ++ lb, (w.alloc (.deferred (some []))).alloc (.loop (rec0 .ready none)), hent, ?_, fun _ _ => trivial, ?_, fun h => by simp [Fence.wide] at h, ?_⟩
  · simp only [resolve, hg]; simp [go_sem]
  · simp [invoke, go_sem, eg]
  refine (hseq (w.heap.size + 1) (fun pre W => I pre W ∧ Books w (rec0 .ready none) W) (fun pre W => ∃ c, Ix c pre W ∧ Books w (rec0 .done (some c)) W) _ hbel (by rw [hsz]; exact Nat.le_refl _) ?_ ?_ ?_ ⟨hI.alloc _ (hI.alloc _ h0), hB1⟩).mono ?_
  · intro s A B row hs hg' hr
    rw [hsz] at hr
    exact ⟨hI s A B row hs.1 hg' (own hr), hs.2.abides (W1 := (w.alloc (.deferred (some []))).alloc (.loop (rec0 .ready none))) hg' (by rw [hsz]; exact hr)⟩
  · rintro s A B row ⟨c, h1, h2⟩ hg' hr
    rw [hsz] at hr
    exact ⟨c, hIx c s A B row h1 hg' (own hr), h2.abides (W1 := (w.alloc (.deferred (some []))).alloc (.loop (rec0 .ready none))) hg' (by rw [hsz]; exact hr)⟩
  · rintro pre x W ⟨hi, hbk⟩ hx
    have hy := run_yield (P := P) (args := encs x) hbk.1 (hps x)
    refine ⟨fn, _, assign, body, hy, roundIn_of_wpIn hfn (hassign _ pre x W _ hi hx ?_)⟩
    intro a' Wa hk1 hp1 hi1 hax
    have hbk1 := hbk.keeps hk1
    have hl1 := heap_lt hbk1.1
    have hbk2 := hbk1.turn { rec0 .ready none with state := .busy }
    refine ⟨_, run_beginRound hbk1.1 rfl, wpIn_mono (hbody _ pre x a' _ (by omega) ⟨_, hbk2.1⟩ (hI.putObj _ hi1 (by omega) hbk1.1 rfl) ((hAx pre x a').putObj (s := ()) _ hax (by omega) hbk1.1 rfl)) ?_⟩
    have hp2 := hKb Wa (.loop { rec0 .ready none with state := .busy })
    intro e a3 W3 hpost
    have fin : ∀ (jump : Option Code), KeepsFrom w.heap.size (Wa.putObj (w.heap.size + 1) (.loop { rec0 .ready none with state := .busy })) W3 →
        (Instr.endRound (w.heap.size + 1) jump).run P W3 = .ok (.bool jump.isNone) (W3.putObj (w.heap.size + 1) (.loop (rec0 (if jump.isNone then .ready else .done) jump))) ∧ Books w { rec0 .ready none with state := .busy } W3 := fun jump hk3 => by
      have hb3 := hbk2.keeps hk3
      exact ⟨run_endRound (P := P) jump hb3.1, hb3⟩
    have stop : ∀ c, KeepsFrom w.heap.size (Wa.putObj (w.heap.size + 1) (.loop { rec0 .ready none with state := .busy })) W3 → Kp (Wa.putObj (w.heap.size + 1) (.loop { rec0 .ready none with state := .busy })) W3 → Ix c (pre ++ [x]) W3 →
        ∃ v w', (Instr.endRound (w.heap.size + 1) (some c)).run P W3 = .ok v w' ∧ ((Ending.returned v = .returned (.bool true) ∧ (I (pre ++ [x]) w' ∧ Books w (rec0 .ready none) w') ∧ Kp W w') ∨ (Ending.returned v = .returned (.bool false) ∧ (∃ c, Ix c (pre ++ [x]) w' ∧ Books w (rec0 .done (some c)) w') ∧ Kp W w')) := fun c hk3 hp3 hi3 => by
      obtain ⟨hr, hb3⟩ := fin (some c) hk3
      exact ⟨_, _, hr, .inr ⟨rfl, ⟨c, (hIx c).putObj _ hi3 (by omega) hb3.1 rfl, hb3.turn _⟩, hKt hp1 (hKt (hKt hp2 hp3) (hKb _ _))⟩⟩
    cases e with
    | normal =>
      obtain ⟨hk3, hp3, hi3⟩ := hpost
      obtain ⟨hr, hb3⟩ := fin none hk3
      exact ⟨_, _, hr, .inl ⟨rfl, ⟨hI.putObj _ hi3 (by omega) hb3.1 rfl, hb3.turn _⟩, hKt hp1 (hKt (hKt hp2 hp3) (hKb _ _))⟩⟩
    | ret => exact stop _ hpost.1 hpost.2.1 hpost.2.2
    | exit id => exact stop _ hpost.1 hpost.2.1 hpost.2.2
    | goto t => exact hpost.elim
    | panic ch => exact hpost.elim
    | outgrown => exact hpost.elim
  · rintro e W2 ⟨⟨v, rfl⟩, (⟨xs, hS, hi, hbk⟩ | ⟨pre, hSp, c, hi, hbk⟩)⟩
    · exact ⟨none, _, run_endLoop (P := P) hbk.1 (by simp [rec0]), hdone _ xs _ (Nat.le_refl _) hS (hI.putObj _ hi (by omega) hbk.1 rfl) ((World.putObj_heap_other (by omega)).trans hbk.2)⟩
    · exact ⟨some c, _, run_endLoop (P := P) hbk.1 (by simp [rec0]), hstop _ c pre _ (Nat.le_refl _) hSp ((hIx c).putObj _ hi (by omega) hbk.1 rfl) ((World.putObj_heap_other (by omega)).trans hbk.2)⟩
end
end Go.Proofs.Ytfjbggodniemeaa
