/- Clear: the first two pairs with the same step. -/
import Derived.Test.YtlgonmnbedddaaaClr
import Derived.Test.YtlgonmnbedddaaaOrd
set_option linter.unusedVariables false
set_option linter.unusedSimpArgs false
namespace Go.Proofs.Ytlgonmnbedddaaa
open Go.RowKit Go.Shelf
attribute [local go_sem] Oper.semAt_some

/-- a pair behind p with the same step -/
def clash (xs : List Int) (p q : Nat × Nat) : Bool := decide (p.1 < q.1) && decide (stepOf xs p = stepOf xs q)
def firstIn (xs : List Int) (ps : List (Nat × Nat)) (p : Nat × Nat) : Option (Nat × Nat) := ps.find? (clash xs p)
def firstClash (xs : List Int) : Option ((Nat × Nat) × (Nat × Nat)) := (pairsN xs.length).findSome? fun p => (firstIn xs (pairsN xs.length) p).map fun q => (p, q)

theorem firstClash_some {xs : List Int} {pre : List (Nat × Nat)} {p q : Nat × Nat} (h1 : pre ++ [p] <+: pairsN xs.length) (h2 : ∀ r ∈ pre, firstIn xs (pairsN xs.length) r = none) (h3 : firstIn xs (pairsN xs.length) p = some q) :
    firstClash xs = some (p, q) := by
  obtain ⟨r, hr⟩ := h1
  have key : ∀ (f : Nat × Nat → Option ((Nat × Nat) × (Nat × Nat))), (∀ a ∈ pre, f a = none) → f p = some (p, q) → (pre ++ [p] ++ r).findSome? f = some (p, q) := by
    intro f hf hp
    rw [List.append_assoc, List.findSome?_append, List.findSome?_eq_none_iff.2 hf]
    simp [hp]
  unfold firstClash
  conv => lhs; arg 2; rw [← hr]
  exact key _ (fun a ha => by rw [h2 a ha]; rfl) (by rw [h3]; rfl)
theorem firstClash_none {xs : List Int} (h : ∀ r ∈ pairsN xs.length, firstIn xs (pairsN xs.length) r = none) : firstClash xs = none := by
  unfold firstClash
  rw [List.findSome?_eq_none_iff]
  intro a ha; rw [h a ha]; rfl
theorem firstIn_some {xs : List Int} {pre : List (Nat × Nat)} {p q : Nat × Nat} (h1 : pre ++ [q] <+: pairsN xs.length) (h2 : ∀ r ∈ pre, clash xs p r = false) (h3 : clash xs p q = true) : firstIn xs (pairsN xs.length) p = some q := by
  obtain ⟨r, hr⟩ := h1
  unfold firstIn
  rw [← hr, List.append_assoc, List.find?_append, List.find?_eq_none.2 (fun a ha => by simp [h2 a ha])]
  simp [h3]
theorem firstIn_none {xs : List Int} {p : Nat × Nat} (h : ∀ r ∈ pairsN xs.length, clash xs p r = false) : firstIn xs (pairsN xs.length) p = none := by
  unfold firstIn; exact List.find?_eq_none.2 (fun a ha => by simp [h a ha])

def four (p q : Nat × Nat) : Array Value := #[.int .i64 p.1, .int .i64 p.2, .int .i64 q.1, .int .i64 q.2]
def zero4 : Array Value := #[.int .i64 0, .int .i64 0, .int .i64 0, .int .i64 0]
/-- the cells of Clear's own variables -/
def CBase (w : World) (n1 : Nat) (sl : Value) (a4 : Array Value) (b : Bool) (er : Int) (W : World) : Prop :=
  W.heap[w.heap.size]? = some (.cells #[sl] 22) ∧ W.heap[w.heap.size + 1]? = some (.cells a4 34) ∧ W.heap[w.heap.size + 2]? = some (.cells #[.bool b] 4) ∧ W.heap[w.heap.size + 3]? = some (.cells #[.int .i64 er] 26) ∧ n1 ≤ W.heap.size ∧ Below w.heap.size w W
theorem CBase.own {w : World} {n1 B : Nat} {sl : Value} {a4 : Array Value} {b : Bool} {er : Int} {W W' : World} {row : Option Nat} (h : CBase w n1 sl a4 b er W) (hB : w.heap.size + 4 ≤ B) (hg : W.grownBy W' row) (hr : ∀ r, row = some r → B ≤ r ∧ ∃ o : Obj, W.heap[r]? = some o ∧ o.isCells = false) : CBase w n1 sl a4 b er W' := by
  obtain ⟨h1, h2, h3, h4, h5, h6⟩ := h
  exact ⟨own_block hg hr (by omega) h1, own_block hg hr (by omega) h2, own_block hg hr (by omega) h3, own_block hg hr (by omega) h4, Nat.le_trans h5 hg.size, h6.grown hg h6.size (fun k e => by have := (hr k e).1; omega)⟩
theorem CBase.alloc {w : World} {n1 : Nat} {sl : Value} {a4 : Array Value} {b : Bool} {er : Int} {W : World} (h : CBase w n1 sl a4 b er W) (o : Obj) : CBase w n1 sl a4 b er (W.alloc o) := by
  obtain ⟨h1, h2, h3, h4, h5, h6⟩ := h
  exact ⟨alloc_old h1, alloc_old h2, alloc_old h3, alloc_old h4, by simp; omega, h6.alloc h6.size _⟩

theorem CBase.put {w : World} {n1 : Nat} {sl : Value} {a4 : Array Value} {b : Bool} {er : Int} {W : World} (h : CBase w n1 sl a4 b er W) (a4' : Array Value) (b' : Bool) (er' : Int) (hs : a4.size = a4'.size) :
    CBase w n1 sl a4' b' er' (((W.setRow (w.heap.size + 1) a4').setCell ⟨w.heap.size + 1 + 1, 0, none⟩ (.bool b')).setCell ⟨w.heap.size + 1 + 1 + 1, 0, none⟩ (.int .i64 er')) := by
  obtain ⟨h1, h2, h3, h4, h5, h6⟩ := h
  refine ⟨set_other (set_other (setRow_old h1 (by omega)) (by omega)) (by omega), set_other (set_other (setRow_same h2) (by omega)) (by omega), set_other (set_same (setRow_old h3 (by omega))) (by omega),
    set_same (set_other (setRow_old h4 (by omega)) (by omega)), by simp [World.setRow]; omega, ?_⟩
  exact ((below_setRow h6 (by omega) _).setCell (by simp; omega) _).setCell (by simp; omega) _
theorem CBase.keeps {w : World} {n1 : Nat} {sl : Value} {a4 : Array Value} {b : Bool} {er : Int} {W : World} (h : CBase w n1 sl a4 b er W) {a4' : Array Value} {b' : Bool} {er' : Int} :
    KeepsOthers W (((W.setRow (w.heap.size + 1) a4').setCell ⟨w.heap.size + 1 + 1, 0, none⟩ (.bool b')).setCell ⟨w.heap.size + 1 + 1 + 1, 0, none⟩ (.int .i64 er')) :=
  ((keeps_setRow h.2.1).trans (KeepsOthers.setCell _ _ _)).trans (KeepsOthers.setCell _ _ _)
theorem clash_yes {xs : List Int} {x y : Nat × Nat} (h1 : decide (x.1 < y.1) = true) (h2 : (stepOf xs x).1 = (stepOf xs y).1) (h3 : (stepOf xs x).2 = (stepOf xs y).2) : clash xs x y = true := by
  have : stepOf xs x = stepOf xs y := Prod.ext h2 h3
  simp only [clash, h1, this, Bool.true_and, decide_true]
theorem clash_no1 {xs : List Int} {x y : Nat × Nat} (h2 : ¬ (stepOf xs x).1 = (stepOf xs y).1) : clash xs x y = false := by
  have : ¬ stepOf xs x = stepOf xs y := fun e => h2 (by rw [e])
  simp [clash, this]
theorem clash_no2 {xs : List Int} {x y : Nat × Nat} (h2 : ¬ (stepOf xs x).2 = (stepOf xs y).2) : clash xs x y = false := by
  have : ¬ stepOf xs x = stepOf xs y := fun e => h2 (by rw [e])
  simp [clash, this]
theorem clash_snoc {xs : List Int} {x y : Nat × Nat} {pre : List (Nat × Nat)} (h : ∀ r ∈ pre, clash xs x r = false) (h2 : clash xs x y = false) : ∀ r ∈ pre ++ [y], clash xs x r = false := fun r hr =>
  (List.mem_append.1 hr).elim (h r) (fun e => by simp at e; subst e; exact h2)

/-- what Clear answers -/
def clearS (xs : List Int) : Value :=
  if ordB xs then match firstClash xs with
    | some (p, q) => .tuple #[.agg (four p q), .bool false, .int .i64 0]
    | none => .tuple #[.agg zero4, .bool true, .int .i64 0]
  else .tuple #[.agg zero4, .bool false, .int .i64 2]

set_option maxRecDepth 100000 in
set_option maxHeartbeats 3200000 in
theorem Clear_ok (v : Value) (xs : List Int) (w : World) (ho : ordB xs = true) (hr : Reads w v xs) :
    Calls Try.prog 10 #[v] w fun e w' => e = .returned (clearS xs) ∧ Below w.heap.size w w' := by
  have hr0 := hr
  obtain ⟨a, cap, rfl, h1, h2, _⟩ := hr.open
  clear hr h1 h2
  have HO := Lib.hid ho
  obtain ⟨hl1, hl2⟩ := ordB_len ho
  have hrg := Lib.hid (ordB_rng ho)
  clear ho
  refine (callsIn_wide (n := 20)).1 ?_
  refine callsIn_of_wp_marks Try.func10 rfl trivial ?_ rfl
  simp only [Try.ntmps10, List.size_toArray, List.length_cons, List.length_nil, Nat.reduceAdd, Nat.reduceSub, Array.replicate_succ, Array.replicate_zero, List.push_toArray, List.append_toArray, List.nil_append, List.cons_append]
  gi_wp2_with fail
  refine ⟨trivial, (callsIn_wide.2 (isOrder_any _ xs _ (hr0.below ((((Below.refl _ w).alloc (Nat.le_refl _) _).alloc (by simp) _).alloc (by simp <;> omega) _ |>.alloc (by simp <;> omega) _)))).mono ?_⟩
  rintro e w' ⟨rfl, rfl⟩
  rw [HO.out]
  gi_wp2_with fail
  refine ⟨trivial, (callsIn_wide.2 (pairs_any _ _ _ _)).mono ?_⟩
  rintro e w' ⟨rfl, rfl⟩
  gi_wp2_with fail
  have hsm : ∀ j, -1000000 ≤ gi xs j ∧ gi xs j ≤ 1000000 := fun j => by have := hrg.out j; omega
  have HSM := Lib.hid hsm
  clear hsm
  generalize hW0 : World.alloc (World.alloc (World.alloc (World.alloc (World.alloc w _) _) _) _) _ = W0
  have hsz : W0.heap.size = w.heap.size + 5 := by rw [← hW0]; simp
  have hbW : Below w.heap.size w W0 := by rw [← hW0]; exact (((((Below.refl _ _).alloc (Nat.le_refl _) _).alloc (by simp <;> omega) _).alloc (by simp <;> omega) _).alloc (by simp <;> omega) _).alloc (by simp <;> omega) _
  have hI0 : CBase w W0.heap.size (.slice a xs.length cap) zero4 false 0 W0 := by
    refine ⟨?_, ?_, ?_, ?_, Nat.le_refl _, hbW⟩
    · rw [← hW0, heap_alloc_lt _ _ _ (by simp <;> omega), heap_alloc_lt _ _ _ (by simp <;> omega), heap_alloc_lt _ _ _ (by simp <;> omega), heap_alloc_lt _ _ _ (by simp <;> omega)]; exact heap_alloc_at _ _ _ (by simp)
    · rw [← hW0, heap_alloc_lt _ _ _ (by simp <;> omega), heap_alloc_lt _ _ _ (by simp <;> omega), heap_alloc_lt _ _ _ (by simp <;> omega)]; exact heap_alloc_at _ _ _ (by simp)
    · rw [← hW0, heap_alloc_lt _ _ _ (by simp <;> omega), heap_alloc_lt _ _ _ (by simp <;> omega)]; exact heap_alloc_at _ _ _ (by simp)
    · rw [← hW0, heap_alloc_lt _ _ _ (by simp <;> omega)]; exact heap_alloc_at _ _ _ (by simp)
  have hb4 : W0.heap[w.heap.size + 4]? = some (.cells #[.slice a xs.length cap] 22) := by rw [← hW0]; exact heap_alloc_at _ _ _ (by simp)
  clear hW0
  have hS : ∀ b, (b < w.heap.size ∨ b = w.heap.size + 4) → b < W0.heap.size := by intro b hb; omega
  refine wpIn_rangeFunc_ownH (w0 := W0) rfl (by omega : 1 ≤ 20) (gf := 42) (lb := #[.pointer (some ⟨w.heap.size + 4, 0, none⟩)]) rfl trivial (enters_of Try.func42 (by kernel_rfl) rfl)
    (pairs_stops (fun b => b < w.heap.size ∨ b = w.heap.size + 4) (w.heap.size + 4) (.slice a xs.length cap) xs HSM.out (by omega) _ (by omega) W0 (by rw [cell_of_row _ _ _ _ _ _ hb4]; rfl) (.inr rfl) hS ((hr0.later hbW).mono (fun b hb => .inl hb)))
    (fun h k => SameS.trans h k) (fun W l o o' hl _ _ _ => SameS.putObj (fun i hi => by have := hS i hi; omega)) (Below.refl _ _) (fun _ => rfl)
    (fun pre W => CBase w W0.heap.size (.slice a xs.length cap) zero4 false 0 W ∧ ∀ r ∈ pre, firstIn xs (pairsN xs.length) r = none)
    (fun c pre' W => c = .ret ∧ ∃ pre p q, pre' = pre ++ [p] ∧ (∀ r ∈ pre, firstIn xs (pairsN xs.length) r = none) ∧ firstIn xs (pairsN xs.length) p = some q ∧ CBase w W0.heap.size (.slice a xs.length cap) (four p q) false 0 W)
    ?hI ?hIx ⟨hI0, by simp⟩
    (fun x a' W => ∃ Bx, w.heap.size + 4 < Bx ∧ W.heap[Bx]? = some (.cells #[.int .i64 x.1, .int .i64 x.2] 37) ∧ W.heap[Bx + 1]? = some (.cells #[.int .i64 (stepOf xs x).1, .int .i64 (stepOf xs x).2] 62) ∧ a' = { tmps := #[.slice a xs.length cap, .pointer (some ⟨w.heap.size, 0, none⟩), .pointer (some ⟨w.heap.size + 1, 0, none⟩), .pointer (some ⟨w.heap.size + 1 + 1, 0, none⟩), .pointer (some ⟨w.heap.size + 1 + 1 + 1, 0, none⟩), .pointer (some ⟨Bx, 0, none⟩), .pointer (some ⟨Bx + 1, 0, none⟩), undef, undef, .slice a xs.length cap, .bool true, .bool false, undef, .slice a xs.length cap, .func (.func 42) #[] #[.pointer (some ⟨w.heap.size + 1 + 1 + 1 + 1, 0, none⟩)], pairEnc x, stepEnc (stepOf xs x), undef, undef, undef, undef, undef, undef, undef, undef, undef, undef, undef, undef, undef, undef, undef, undef, undef, undef, undef, undef, undef, undef, undef, undef], defers := [] })
    ?hAx ?assign ?body ?done ?stop
  case hI => intro s W W' row ⟨h1, h2⟩ hg hr; exact ⟨h1.own (by omega) hg hr, h2⟩
  case hIx => rintro c s W W' row ⟨h0, pre, p, q, h1, h2, h3, h4⟩ hg hr; exact ⟨h0, pre, p, q, h1, h2, h3, h4.own (by omega) hg hr⟩
  case hAx => rintro x a' s W W' row ⟨Bx, h1, h2, h2', h3⟩ hg hr; exact ⟨Bx, h1, own_cells hg hr h2, own_cells hg hr h2', h3⟩
  case assign =>
    rintro l pre x W K ⟨h1, h2⟩ hK
    simp only [pairEncs, pairEnc, stepEnc] at hK ⊢
    gi_wp2
    refine hK _ _ (((KeepsOthers.alloc _ _).trans (KeepsOthers.alloc _ _)).from _) ?_ ⟨(h1.alloc _).alloc _, h2⟩ ⟨W.heap.size, by have := h1.2.2.2.2.1; omega, alloc_old (heap_alloc_new _ _), heap_alloc_at _ _ _ (by simp), rfl⟩
    intro i hi
    have := hS i hi
    have := h1.2.2.2.2.1
    rw [heap_alloc_lt _ _ _ (by simp; omega)]; exact heap_alloc_lt _ _ _ (by omega)
  case body =>
    rintro l pre x a' W hl ⟨r, hr⟩ ⟨h1, h2⟩ ⟨Bx, hBx, hX, hX', rfl⟩ hlt
    have hsW := h1.2.2.2.2.1
    have c1 := cell_of h1.1 (j := 0) rfl
    gi_wp2_with fail
    refine ⟨trivial, (CallsIn.inRound l (callsIn_wide.2 (pairs_any _ _ _ _))).mono ?_⟩
    rintro e w' ⟨rfl, rfl⟩
    gi_wp2_with fail
    have hr' : (W.alloc (.cells #[.slice a xs.length cap] 22)).heap[l]? = some (.loop r) := alloc_old hr
    have hbW1 : Below w.heap.size w (W.alloc (.cells #[.slice a xs.length cap] 22)) := h1.2.2.2.2.2.alloc h1.2.2.2.2.2.size _
    have hbn : (W.alloc (.cells #[.slice a xs.length cap] 22)).heap[W.heap.size]? = some (.cells #[.slice a xs.length cap] 22) := heap_alloc_new _ _
    have hX1 := alloc_old (o' := .cells #[.slice a xs.length cap] 22) hX
    have hX1' := alloc_old (o' := .cells #[.slice a xs.length cap] 22) hX'
    have h11 := h1.alloc (.cells #[.slice a xs.length cap] 22)
    have hKF1 : KeepsFrom W0.heap.size W (W.alloc (.cells #[.slice a xs.length cap] 22)) := (KeepsOthers.alloc _ _).from _
    have hSS1 : SameS (fun b => b < w.heap.size ∨ b = w.heap.size + 4) W (W.alloc (.cells #[.slice a xs.length cap] 22)) := fun i hi => heap_alloc_lt _ _ _ (by have := hS i hi; omega)
    have hsz1 : (W.alloc (.cells #[.slice a xs.length cap] 22)).heap.size = W.heap.size + 1 := by simp
    generalize hW1 : W.alloc (.cells #[.slice a xs.length cap] 22) = W1 at hr' hbW1 hbn hX1 hX1' h11 hKF1 hSS1 hsz1 ⊢
    clear hW1 c1
    have hS2 : ∀ b, (b < w.heap.size ∨ b = W.heap.size) → b < W1.heap.size := by intro b hb; omega
    have hBx2 := heap_lt hX'
    refine wpIn_rangeFunc_ownN (w0 := W1) (l₀ := l) (r₀ := r) rfl hr' (by omega : 1 ≤ 18) (gf := 42) (lb := #[.pointer (some ⟨W.heap.size, 0, none⟩)]) rfl trivial (enters_of Try.func42 (by kernel_rfl) rfl)
      ((pairs_stops (fun b => b < w.heap.size ∨ b = W.heap.size) W.heap.size (.slice a xs.length cap) xs HSM.out (by omega) _ (by omega) W1 (by rw [cell_of_row _ _ _ _ _ _ hbn]; rfl) (.inr rfl) hS2 ((hr0.later hbW1).mono (fun b hb => .inl hb))).inRound l)
      (fun h k => SameS.trans h k) (fun W l o o' hl _ _ _ => SameS.putObj (fun i hi => by have := hS2 i hi; omega)) (Below.refl _ _) (fun _ => rfl)
      (fun pre' W' => (CBase w W0.heap.size (.slice a xs.length cap) zero4 false 0 W' ∧ (∀ r ∈ pre', clash xs x r = false) ∧ W'.heap[Bx]? = some (.cells #[.int .i64 x.1, .int .i64 x.2] 37) ∧ W'.heap[Bx + 1]? = some (.cells #[.int .i64 (stepOf xs x).1, .int .i64 (stepOf xs x).2] 62)) ∧ W1.heap.size ≤ W'.heap.size ∧ SameS (fun b => b < w.heap.size ∨ b = w.heap.size + 4) W W' ∧ KeepsFrom W0.heap.size W W')
      (fun c pre'' W' => c = .ret ∧ ∃ pre' q, pre'' = pre' ++ [q] ∧ (∀ r ∈ pre', clash xs x r = false) ∧ clash xs x q = true ∧ CBase w W0.heap.size (.slice a xs.length cap) (four x q) false 0 W' ∧ KeepsFrom W0.heap.size W W')
      ?hI2 ?hIx2 ⟨⟨h11, by simp, hX1, hX1'⟩, Nat.le_refl _, hSS1, hKF1⟩
      (fun y a'' W' => ∃ By, Bx + 1 < By ∧ W'.heap[By]? = some (.cells #[.int .i64 y.1, .int .i64 y.2] 37) ∧ W'.heap[By + 1]? = some (.cells #[.int .i64 (stepOf xs y).1, .int .i64 (stepOf xs y).2] 62) ∧ a'' = { tmps := #[.slice a xs.length cap, .pointer (some ⟨w.heap.size, 0, none⟩), .pointer (some ⟨w.heap.size + 1, 0, none⟩), .pointer (some ⟨w.heap.size + 1 + 1, 0, none⟩), .pointer (some ⟨w.heap.size + 1 + 1 + 1, 0, none⟩), .pointer (some ⟨Bx, 0, none⟩), .pointer (some ⟨Bx + 1, 0, none⟩), .pointer (some ⟨By, 0, none⟩), .pointer (some ⟨By + 1, 0, none⟩), .slice a xs.length cap, .bool true, .bool false, undef, .slice a xs.length cap, .func (.func 42) #[] #[.pointer (some ⟨w.heap.size + 1 + 1 + 1 + 1, 0, none⟩)], pairEnc x, stepEnc (stepOf xs x), .slice a xs.length cap, .func (.func 42) #[] #[.pointer (some ⟨W.heap.size, 0, none⟩)], pairEnc y, stepEnc (stepOf xs y), undef, undef, undef, undef, undef, undef, undef, undef, undef, undef, undef, undef, undef, undef, undef, undef, undef, undef, undef, undef], defers := [] })
      ?hAx2 ?assign2 ?body2 ?done2 ?stop2
    case hI2 =>
      rintro s X Y row ⟨⟨g1, g2, g3, g4⟩, g5, g6, g7⟩ hg hrow
      exact ⟨⟨g1.own (by omega) hg hrow, g2, own_block hg hrow (by omega) g3, own_block hg hrow (by omega) g4⟩, Nat.le_trans g5 hg.size, fun i hi => (hg.block i (by have := hS i hi; omega) (fun e => by have := (hrow i e.symm).1; have := hS i hi; omega)).trans (g6 i hi), ownFrom_keepsFrom (β := Unit) (B := W0.heap.size) (B' := W1.heap.size) (w₀ := W) (by omega) () X Y row g7 hg hrow⟩
    case hIx2 =>
      rintro c s X Y row ⟨g0, pre', q, g1, g2, g3, g4, g7⟩ hg hrow
      exact ⟨g0, pre', q, g1, g2, g3, g4.own (by omega) hg hrow, ownFrom_keepsFrom (β := Unit) (B := W0.heap.size) (B' := W1.heap.size) (w₀ := W) (by omega) () X Y row g7 hg hrow⟩
    case hAx2 => rintro y a'' s X Y row ⟨By, g1, g2, g2', g3⟩ hg hrow; exact ⟨By, g1, own_cells hg hrow g2, own_cells hg hrow g2', g3⟩
    case assign2 =>
      rintro l2 pre' y W' K ⟨⟨g1, g2, g3, g4⟩, g5, g6, g7⟩ hK
      simp only [pairEncs, pairEnc, stepEnc] at hK ⊢
      gi_wp2
      refine hK _ _ (((KeepsOthers.alloc _ _).trans (KeepsOthers.alloc _ _)).from _) ?_ ⟨⟨(g1.alloc _).alloc _, g2, alloc_old (alloc_old g3), alloc_old (alloc_old g4)⟩, by simp; omega, ?_, g7.trans (((KeepsOthers.alloc _ _).trans (KeepsOthers.alloc _ _)).from _)⟩ ⟨W'.heap.size, by omega, alloc_old (heap_alloc_new _ _), heap_alloc_at _ _ _ (by simp), rfl⟩
      · intro i hi
        have := hS2 i hi
        rw [heap_alloc_lt _ _ _ (by simp; omega)]; exact heap_alloc_lt _ _ _ (by omega)
      · intro i hi
        have := hS i hi
        rw [heap_alloc_lt _ _ _ (by simp; omega), heap_alloc_lt _ _ _ (by omega)]; exact g6 i hi
    case body2 =>
      rintro l2 pre' y a'' W' hl2 hr2 ⟨⟨g1, g2, g3, g4⟩, g5, g6, g7⟩ ⟨By, hBy, hY, hY', rfl⟩ hlt2
      have d1 := cell_of g3 (j := 0) rfl
      have d2 := cell_of g3 (j := 1) rfl
      have d3 := cell_of g4 (j := 0) rfl
      have d4 := cell_of g4 (j := 1) rfl
      have d5 := cell_of hY (j := 0) rfl
      have d6 := cell_of hY (j := 1) rfl
      have d7 := cell_of hY' (j := 0) rfl
      have d8 := cell_of hY' (j := 1) rfl
      by_cases hl : x.1 < y.1
      · have hl' : decide (x.1 < y.1) = true := by simpa using hl
        clear hl
        have hzc := g1.2.1
        have HZ := Lib.hid hzc
        clear hzc
        gi_wp2_with (refine store_row_in rfl 34 (.tmp 2) (.tmp 39) rfl (w.heap.size + 1) (four x y) rfl rfl 34 zero4 HZ.out (by kernel_rfl) rfl (by simp [four, Value.oneCell']) ?_; have e1 := cell_of (setRow_old (cs := four x y) (i := w.heap.size + 1) g1.2.2.1 (by omega)) (j := 0) rfl; have e2 := free_of (setRow_old (cs := four x y) (i := w.heap.size + 1) g1.2.2.1 (by omega)) 0; have e3 := cell_of (setRow_old (cs := four x y) (i := w.heap.size + 1) g1.2.2.2.1 (by omega)) (j := 0) rfl; have e4 := free_of (setRow_old (cs := four x y) (i := w.heap.size + 1) g1.2.2.2.1 (by omega)) 0)
        · exact ⟨g1.keeps.from _, rfl, pre', y, rfl, g2, clash_yes hl' (by assumption) (by assumption), g1.put _ _ _ rfl, g7.trans (g1.keeps.from _)⟩
        · exact ⟨KeepsFrom.refl _ _, SameS.refl _ _, ⟨g1, clash_snoc g2 (clash_no2 (by assumption)), g3, g4⟩, g5, g6, g7⟩
        · exact ⟨KeepsFrom.refl _ _, SameS.refl _ _, ⟨g1, clash_snoc g2 (clash_no1 (by assumption)), g3, g4⟩, g5, g6, g7⟩
      · have hl' : decide (x.1 < y.1) = false := by simpa using hl
        clear hl
        gi_wp2_with fail
        exact ⟨KeepsFrom.refl _ _, SameS.refl _ _, ⟨g1, clash_snoc g2 (by simp [clash, hl']), g3, g4⟩, g5, g6, g7⟩
    case done2 =>
      rintro ys' W' rfl ⟨⟨g1, g2, g3, g4⟩, g5, g6, g7⟩
      gi_wp2
      exact ⟨g7, g6, g1, fun z hz => (List.mem_append.1 hz).elim (h2 z) (fun e => by simp at e; subst e; exact firstIn_none g2)⟩
    case stop2 =>
      rintro c pre'' W' hpre ⟨rfl, pre', q, rfl, g2, g3, g4, g7⟩
      gi_wp2
      exact ⟨g7, rfl, pre, x, q, rfl, h2, firstIn_some hpre g2 g3, g4⟩
  case done =>
    rintro D ys W hD rfl ⟨h1, h2⟩ hK
    have HZ := Lib.hid h1.2.1
    have hS4 : clearS xs = .tuple #[.agg zero4, .bool true, .int .i64 0] := by unfold clearS; rw [HO.out, firstClash_none h2]; rfl
    have HS := Lib.hid hS4
    clear hS4
    gi_wp2_with (refine store_row_in rfl 34 (.tmp 2) (.tmp 40) rfl (w.heap.size + 1) zero4 rfl rfl 34 zero4 HZ.out (by kernel_rfl) rfl (by simp [zero4, Value.oneCell']) ?_; have e1 := cell_of (setRow_old (cs := zero4) (i := w.heap.size + 1) h1.2.2.1 (by omega)) (j := 0) rfl; have e2 := free_of (setRow_old (cs := zero4) (i := w.heap.size + 1) h1.2.2.1 (by omega)) 0; have e3 := cell_of (setRow_old (cs := zero4) (i := w.heap.size + 1) h1.2.2.2.1 (by omega)) (j := 0) rfl; have e4 := free_of (setRow_old (cs := zero4) (i := w.heap.size + 1) h1.2.2.2.1 (by omega)) 0)
    have hP := h1.put zero4 true 0 rfl
    have hK2 := h1.keeps (a4' := zero4) (b' := true) (er' := 0) |>.same D _ hK rfl
    refine ⟨by simp, .inl ⟨_, _, rfl, run_takeDeferred hK2, ?_⟩⟩
    refine ⟨_, results_cell3 (g1 := w.heap.size + 1) (g2 := w.heap.size + 1 + 1) (g3 := w.heap.size + 1 + 1 + 1) rfl rfl rfl rfl (run_loadVar_row _ _ _ _ _ _ (.array 4 3) (putObj_other hP.2.1 (by omega)) Try.underlying34 rfl (by kernel_rfl)) (loadVar_cell (by kernel_rfl) (putObj_other hP.2.2.1 (by omega))) (loadVar_cell (by kernel_rfl) (putObj_other hP.2.2.2.1 (by omega))), by rw [HS.out], ?_⟩
    exact hP.2.2.2.2.2.trans (belowK_b (w := w) (Nat.le_refl _) _ D _ _ (by omega) hK2 rfl rfl)
  case stop =>
    rintro D c pre' W hD hpre ⟨rfl, pre, p, q, rfl, h2, h3, h1⟩ hK
    have hS4 : clearS xs = .tuple #[.agg (four p q), .bool false, .int .i64 0] := by unfold clearS; rw [HO.out, firstClash_some hpre h2 h3]; rfl
    have HS := Lib.hid hS4
    clear hS4
    gi_wp2
    refine ⟨by simp, .inl ⟨_, _, rfl, run_takeDeferred hK, ?_⟩⟩
    refine ⟨_, results_cell3 (g1 := w.heap.size + 1) (g2 := w.heap.size + 1 + 1) (g3 := w.heap.size + 1 + 1 + 1) rfl rfl rfl rfl (run_loadVar_row _ _ _ _ _ _ (.array 4 3) (putObj_other h1.2.1 (by omega)) Try.underlying34 rfl (by kernel_rfl)) (loadVar_cell (by kernel_rfl) (putObj_other h1.2.2.1 (by omega))) (loadVar_cell (by kernel_rfl) (putObj_other h1.2.2.2.1 (by omega))), by rw [HS.out], ?_⟩
    exact h1.2.2.2.2.2.trans (belowK_b (w := w) (Nat.le_refl _) _ D _ _ (by omega) hK rfl rfl)

set_option maxHeartbeats 800000 in
theorem Clear_err (v : Value) (xs : List Int) (w : World) (ho : ordB xs = false) (hr : Reads w v xs) :
    Calls Try.prog 10 #[v] w fun e w' => e = .returned (clearS xs) ∧ Below w.heap.size w w' := by
  have hr0 := hr
  obtain ⟨a, cap, rfl, h1, h2, _⟩ := hr.open
  clear hr h1 h2
  have hS4 : clearS xs = .tuple #[.agg zero4, .bool false, .int .i64 2] := by unfold clearS; rw [ho]; rfl
  have HS := Lib.hid hS4
  have HO := Lib.hid ho
  clear hS4 ho
  go_enter Try.func10, Try.ntmps10
  go_wp2_with fail
  refine (isOrder_any _ xs _ (hr0.below ((((Below.refl _ w).alloc (Nat.le_refl _) _).alloc (by simp) _).alloc (by simp <;> omega) _ |>.alloc (by simp <;> omega) _))).mono ?_
  rintro e w' ⟨rfl, rfl⟩
  rw [HO.out]
  go_wp2_with fail
  refine bodyPost_ret (v := .tuple #[.agg zero4, .bool false, .int .i64 2]) (by simp [results, Try.results10, go_sem, zero4]) rfl ⟨by rw [HS.out], ?_⟩
  exact ((((Below.refl _ w).alloc (Nat.le_refl _) _).alloc (by simp) _).alloc (by simp <;> omega) _).alloc (by simp <;> omega) _

theorem Clear_any (v : Value) (xs : List Int) (w : World) (hr : Reads w v xs) :
    Calls Try.prog 10 #[v] w fun e w' => e = .returned (clearS xs) ∧ Below w.heap.size w w' := by
  rcases h : ordB xs with _ | _
  · exact Clear_err v xs w h hr
  · exact Clear_ok v xs w h hr
end Go.Proofs.Ytlgonmnbedddaaa
