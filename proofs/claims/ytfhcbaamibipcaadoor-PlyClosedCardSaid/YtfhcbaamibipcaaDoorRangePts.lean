/- A range statement over the points of a set: the iterator's contract and the law of the statement. -/
import Derived.Test.YtfhcbaamibipcaaDoorGiven
import Derived.Test.YtfhcbaamibipcaaDoorBitsOf
import Derived.Shelf.Spec.TrailingZeros
set_option linter.unusedVariables false
set_option linter.unusedSimpArgs false
namespace Go.Proofs.YtfhcbaamibipcaaDoor
open Go.RowKit

/-- the library's table lies as its initialiser lays it -/
def Tab (w : World) : Prop := TabAt 1 Lib.deBruijn64tab w
theorem Tab.lt {w : World} (h : Tab w) : 1 < w.heap.size := World.block_lt_of_cell? w _ (h 0 (by decide))
theorem Tab.below {w w' : World} (h : Tab w) (hb : Below w.heap.size w w') : Tab w' := fun j hj => (hb.cell (p := ⟨1, j, none⟩) h.lt).trans (h j hj)
theorem Tab.block {w w' : World} (h : Tab w) (hb : w'.heap[1]? = w.heap[1]?) : Tab w' := fun j hj => (World.cell?_of_block hb).trans (h j hj)

/-- a block of cells may be written -/
def Bears {β : Type} (Bs : Nat) (J : β → World → Prop) : Prop := ∀ s W v, J s W → J s (W.setCell ⟨Bs, 0, none⟩ v)
def SameAt (Bs : Nat) (A B : World) : Prop := B.heap[Bs]? = A.heap[Bs]?
theorem SameAt.refl (Bs : Nat) (A : World) : SameAt Bs A A := rfl
theorem SameAt.trans {Bs : Nat} {A B C : World} (h : SameAt Bs A B) (k : SameAt Bs B C) : SameAt Bs A C := Eq.trans k h
theorem SameAt.of_below {Bs n : Nat} {A B : World} (h : Below n A B) (hB : Bs < n) : SameAt Bs A B := h.block Bs hB
theorem SameAt.setCell {Bs k : Nat} {A B : World} (h : SameAt Bs A B) (hne : Bs ≠ k) (u : Value) : SameAt Bs A (B.setCell ⟨k, 0, none⟩ u) := (heap_setCell_other _ _ _ _ hne).trans h

def setCells (s : Nat) : Array Value := #[.int .u64 s]
/-- the contract of the iterator: at each call of yield the points so far, the point, and its block unwritten -/
def PtsGiven (n : Nat) (P : Program) (gf : Nat) (Bs s : Nat) (ts : TypeId) (w : World) : Prop :=
  ∀ (l : Nat) (J Jx : List Nat → World → Prop) (W : World), w.heap.size ≤ W.heap.size → W.heap[Bs]? = some (.cells #[.int .u64 s] ts) → AbidesFrom W.heap.size J → AbidesFrom W.heap.size Jx → Bears Bs J → (∀ pre W1, J pre W1 → Tab W1) →
    (∀ (pre : List Nat) (x : Nat) (W1 : World), J pre W1 → pre ++ [x] <+: bitsOf s → YieldAt Fence.wide (n - 1) P l #[.int .i64 x] W1 fun e W' => (e = .returned (.bool true) ∧ J (pre ++ [x]) W' ∧ SameAt Bs W1 W') ∨ (e = .returned (.bool false) ∧ Jx (pre ++ [x]) W' ∧ SameAt Bs W1 W')) →
    J [] W → CallsIn Fence.wide n P gf #[.func (.yield l) #[] #[], .pointer (some ⟨Bs, 0, none⟩)] W fun e W' => (∃ v, e = .returned v) ∧ (J (bitsOf s) W' ∨ ∃ pre : List Nat, pre <+: bitsOf s ∧ Jx pre W')

theorem range_points {P : Program} {n : Nat} {g : Operand} {ps : Array Tmp} {assign body : Code} {Q : Exit → Act → World → Prop} {a : Act} {w : World}
    {gf Bs s : Nat} {ts : TypeId} (hg : a.eval g = .func (.func gf) #[] #[.pointer (some ⟨Bs, 0, none⟩)]) (eg : ∀ args w, (callFunc gf args).run P w = .ok (.enter gf args) w)
    (hseq : PtsGiven (n - 1) P gf Bs s ts w) (hB : w.heap[Bs]? = some (.cells #[.int .u64 s] ts)) (hps : ps.size = 1)
    (I : List Nat → World → Prop) (Ix : Code → List Nat → World → Prop) (hI : OwnFrom w.heap.size I) (hIx : ∀ c, OwnFrom w.heap.size (Ix c)) (hIB : Bears Bs I) (hT : ∀ pre W, I pre W → Tab W) (h0 : I [] w)
    (Ax : Nat → Act → World → Prop) (hAx : ∀ x a', OwnFrom w.heap.size (fun (_ : Unit) W => Ax x a' W))
    (hassign : ∀ (l : Nat) (pre : List Nat) (x : Nat) (W : World) (K : Act → World → Prop), I pre W → pre ++ [x] <+: bitsOf s → (∀ a' W', KeepsFrom w.heap.size W W' → SameAt Bs W W' → I pre W' → Ax x a' W' → K a' W') →
      assign.wpIn (Fence.wide.inRound l) (n - 1 - 1) P (Exit.then K (fun _ _ _ => False)) { tmps := (ps.zip #[.int .i64 x]).foldl (fun t (p, v) => t.setIfInBounds p v) a.tmps, defers := [] } W)
    (hbody : ∀ (l : Nat) (pre : List Nat) (x : Nat) (a' : Act) (W : World), w.heap.size ≤ l → I pre W → Ax x a' W → pre ++ [x] <+: bitsOf s → body.wpIn (Fence.wide.inRound l) (n - 1 - 1) P (roundPostK w.heap.size (SameAt Bs) I Ix (pre ++ [x]) W) a' W)
    (hdone : ∀ (D : Nat) (W : World), w.heap.size ≤ D → I (bitsOf s) W → W.heap[D]? = some (.deferred (some [])) → Q .normal { a with defers := { target := .collected D, args := #[] } :: a.defers } W)
    (hstop : ∀ (D : Nat) (c : Code) (pre : List Nat) (W : World), w.heap.size ≤ D → pre <+: bitsOf s → Ix c pre W → W.heap[D]? = some (.deferred (some [])) → c.wpIn Fence.wide n P Q { a with defers := { target := .collected D, args := #[] } :: a.defers } W) :
    (Code.rangeFunc g ps assign body).wpIn Fence.wide n P Q a w := by
  refine wpIn_rangeFunc fun fn hfn => ?_
  have hBw := heap_lt hB
  let rec0 : LoopState → Option Code → Loop := fun st pe => { state := st, pending := pe, fn := fn, tmps := a.tmps, params := ps, assign := assign, body := body, defers := w.heap.size }
  have hB1 : Books w (rec0 .ready none) ((w.alloc (.deferred (some []))).alloc (.loop (rec0 .ready none))) := by
    refine ⟨?_, (heap_alloc_lt _ _ _ (by simp)).trans (heap_alloc_new _ _)⟩
    exact heap_alloc_at _ _ _ (by simp)
  have hsz : ((w.alloc (.deferred (some []))).alloc (.loop (rec0 .ready none))).heap.size = w.heap.size + 2 := by simp
  have hent := run_enterLoop_outer (P := P) (w := w) fn a.tmps ps assign body
  have own : ∀ {A : World} {row : Option Nat}, (∀ r, row = some r → w.heap.size + 2 ≤ r ∧ ∃ o : Obj, A.heap[r]? = some o ∧ o.isWalk = true) → ∀ r, row = some r → w.heap.size ≤ r ∧ ∃ o : Obj, A.heap[r]? = some o ∧ o.isCells = false :=
    fun hr r e => by obtain ⟨hB, o, ho, hw⟩ := hr r e; exact ⟨by omega, o, ho, Obj.not_cells_of_walk hw⟩
  have hKb : ∀ (W : World) (o' : Obj), SameAt Bs W (W.putObj (w.heap.size + 1) o') := fun W o' => by
    have : ¬ w.heap.size + 1 = Bs := by omega
    simp [SameAt, World.putObj, Array.getElem?_setIfInBounds, this]
  refine ⟨w.heap.size + 1, [{ target := .collected w.heap.size, args := #[] }], (w.alloc (.deferred (some []))).alloc (.loop (rec0 .ready none)), { target := .fn (.func gf) #[.pointer (some ⟨Bs, 0, none⟩)], args := #[.func (.yield (w.heap.size + 1)) #[] #[]] }, (w.alloc (.deferred (some []))).alloc (.loop (rec0 .ready none)), gf,
    #[.func (.yield (w.heap.size + 1)) #[] #[]] ++ #[.pointer (some ⟨Bs, 0, none⟩)], (w.alloc (.deferred (some []))).alloc (.loop (rec0 .ready none)), hent, ?_, fun _ _ => trivial, ?_, fun h => by simp [Fence.wide] at h, ?_⟩
  · simp only [resolve, hg]; simp [go_sem]
  · simp [invoke, go_sem, eg]
  refine (hseq (w.heap.size + 1) (fun pre W => I pre W ∧ Books w (rec0 .ready none) W) (fun pre W => ∃ c, Ix c pre W ∧ Books w (rec0 .done (some c)) W) _ (by rw [hsz]; omega) (alloc_old (alloc_old hB)) ?_ ?_ ?_ (fun pre W h => hT pre W h.1) ?_ ⟨hI.alloc _ (hI.alloc _ h0), hB1⟩).mono ?_
  · intro s A B row hs hg' hr
    rw [hsz] at hr
    exact ⟨hI s A B row hs.1 hg' (own hr), hs.2.abides (W1 := (w.alloc (.deferred (some []))).alloc (.loop (rec0 .ready none))) hg' (by rw [hsz]; exact hr)⟩
  · rintro s A B row ⟨c, h1, h2⟩ hg' hr
    rw [hsz] at hr
    exact ⟨c, hIx c s A B row h1 hg' (own hr), h2.abides (W1 := (w.alloc (.deferred (some []))).alloc (.loop (rec0 .ready none))) hg' (by rw [hsz]; exact hr)⟩
  · rintro s A v ⟨h1, h2⟩
    exact ⟨hIB _ _ _ h1, h2.keeps ((KeepsOthers.setCell _ _ _).from _)⟩
  · rintro pre x W ⟨hi, hbk⟩ hx
    have hy := run_yield (P := P) (args := #[Value.int .i64 x]) hbk.1 (by rw [show (rec0 .ready none).params = ps from rfl, hps]; rfl)
    refine ⟨fn, _, assign, body, hy, roundIn_of_wpIn hfn (hassign _ pre x W _ hi hx ?_)⟩
    intro a' Wa hk1 hp1 hi1 hax
    have hbk1 := hbk.keeps hk1
    have hl1 := heap_lt hbk1.1
    have hbk2 := hbk1.turn { rec0 .ready none with state := .busy }
    refine ⟨_, run_beginRound hbk1.1 rfl, wpIn_mono (hbody _ pre x a' _ (by omega) (hI.putObj _ hi1 (by omega) hbk1.1 rfl) ((hAx x a').putObj (s := ()) _ hax (by omega) hbk1.1 rfl) hx) ?_⟩
    have hp2 := hKb Wa (.loop { rec0 .ready none with state := .busy })
    intro e a3 W3 hpost
    have fin : ∀ (jump : Option Code), KeepsFrom w.heap.size (Wa.putObj (w.heap.size + 1) (.loop { rec0 .ready none with state := .busy })) W3 →
        (Instr.endRound (w.heap.size + 1) jump).run P W3 = .ok (.bool jump.isNone) (W3.putObj (w.heap.size + 1) (.loop (rec0 (if jump.isNone then .ready else .done) jump))) ∧ Books w { rec0 .ready none with state := .busy } W3 := fun jump hk3 => by
      have hb3 := hbk2.keeps hk3
      exact ⟨run_endRound (P := P) jump hb3.1, hb3⟩
    have stop : ∀ c, KeepsFrom w.heap.size (Wa.putObj (w.heap.size + 1) (.loop { rec0 .ready none with state := .busy })) W3 → SameAt Bs (Wa.putObj (w.heap.size + 1) (.loop { rec0 .ready none with state := .busy })) W3 → Ix c (pre ++ [x]) W3 →
        ∃ v w', (Instr.endRound (w.heap.size + 1) (some c)).run P W3 = .ok v w' ∧ ((Ending.returned v = .returned (.bool true) ∧ (I (pre ++ [x]) w' ∧ Books w (rec0 .ready none) w') ∧ SameAt Bs W w') ∨ (Ending.returned v = .returned (.bool false) ∧ (∃ c, Ix c (pre ++ [x]) w' ∧ Books w (rec0 .done (some c)) w') ∧ SameAt Bs W w')) := fun c hk3 hp3 hi3 => by
      obtain ⟨hr, hb3⟩ := fin (some c) hk3
      exact ⟨_, _, hr, .inr ⟨rfl, ⟨c, (hIx c).putObj _ hi3 (by omega) hb3.1 rfl, hb3.turn _⟩, hp1.trans ((hp2.trans hp3).trans (hKb _ _))⟩⟩
    cases e with
    | normal =>
      obtain ⟨hk3, hp3, hi3⟩ := hpost
      obtain ⟨hr, hb3⟩ := fin none hk3
      exact ⟨_, _, hr, .inl ⟨rfl, ⟨hI.putObj _ hi3 (by omega) hb3.1 rfl, hb3.turn _⟩, hp1.trans ((hp2.trans hp3).trans (hKb _ _))⟩⟩
    | ret => exact stop _ hpost.1 hpost.2.1 hpost.2.2
    | exit id => exact stop _ hpost.1 hpost.2.1 hpost.2.2
    | goto t => exact hpost.elim
    | panic ch => exact hpost.elim
    | outgrown => exact hpost.elim
  · rintro e W2 ⟨⟨v, rfl⟩, (⟨hi, hbk⟩ | ⟨pre, hSp, c, hi, hbk⟩)⟩
    · exact ⟨none, _, run_endLoop (P := P) hbk.1 (by simp [rec0]), hdone _ _ (Nat.le_refl _) (hI.putObj _ hi (by omega) hbk.1 rfl) ((World.putObj_heap_other (by omega)).trans hbk.2)⟩
    · exact ⟨some c, _, run_endLoop (P := P) hbk.1 (by simp [rec0]), hstop _ c pre _ (Nat.le_refl _) hSp ((hIx c).putObj _ hi (by omega) hbk.1 rfl) ((World.putObj_heap_other (by omega)).trans hbk.2)⟩

/-- the same, where the variable is in no box -/
theorem range_pts {P : Program} {n : Nat} {g : Operand} {ps : Array Tmp} {assign body : Code} {Q : Exit → Act → World → Prop} {a : Act} {w : World}
    {gf Bs s : Nat} {ts : TypeId} (hg : a.eval g = .func (.func gf) #[] #[.pointer (some ⟨Bs, 0, none⟩)]) (eg : ∀ args w, (callFunc gf args).run P w = .ok (.enter gf args) w)
    (hseq : PtsGiven (n - 1) P gf Bs s ts w) (hB : w.heap[Bs]? = some (.cells #[.int .u64 s] ts)) (hps : ps.size = 1)
    (I : List Nat → World → Prop) (Ix : Code → List Nat → World → Prop) (a₁ : Nat → Act) (hI : OwnFrom w.heap.size I) (hIx : ∀ c, OwnFrom w.heap.size (Ix c)) (hIB : Bears Bs I) (hT : ∀ pre W, I pre W → Tab W) (h0 : I [] w)
    (hassign : ∀ (l : Nat) (x : Nat) (W : World) (K : Act → World → Prop), K (a₁ x) W →
      assign.wpIn (Fence.wide.inRound l) (n - 1 - 1) P (Exit.then K (fun _ _ _ => False)) { tmps := (ps.zip #[.int .i64 x]).foldl (fun t (p, v) => t.setIfInBounds p v) a.tmps, defers := [] } W)
    (hbody : ∀ (l : Nat) (pre : List Nat) (x : Nat) (W : World), w.heap.size ≤ l → I pre W → pre ++ [x] <+: bitsOf s → body.wpIn (Fence.wide.inRound l) (n - 1 - 1) P (roundPostK w.heap.size (SameAt Bs) I Ix (pre ++ [x]) W) (a₁ x) W)
    (hdone : ∀ (D : Nat) (W : World), w.heap.size ≤ D → I (bitsOf s) W → W.heap[D]? = some (.deferred (some [])) → Q .normal { a with defers := { target := .collected D, args := #[] } :: a.defers } W)
    (hstop : ∀ (D : Nat) (c : Code) (pre : List Nat) (W : World), w.heap.size ≤ D → pre <+: bitsOf s → Ix c pre W → W.heap[D]? = some (.deferred (some [])) → c.wpIn Fence.wide n P Q { a with defers := { target := .collected D, args := #[] } :: a.defers } W) :
    (Code.rangeFunc g ps assign body).wpIn Fence.wide n P Q a w :=
  range_points hg eg hseq hB hps I Ix hI hIx hIB hT h0 (fun x a' _ => a' = a₁ x) (fun _ _ _ _ _ _ hs _ _ => hs)
    (fun l pre x W K hi _ hK => hassign l x W K (hK _ _ (KeepsFrom.refl _ _) (SameAt.refl _ _) hi rfl)) (fun l pre x a' W hl hi e hx => by subst e; exact hbody l pre x W hl hi hx) hdone hstop
end Go.Proofs.YtfhcbaamibipcaaDoor
