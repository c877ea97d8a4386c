/- Regions that draw their order, in the round of a range statement too: reads, and one writing operation behind all of them. -/
import Derived.Sort.QuietThIn
import Derived.Sort.BigQuietIn
set_option linter.unusedVariables false
set_option linter.unusedSimpArgs false
namespace Go.Proofs.Ytfjbggodniemeaa
open Go

section
variable {F : Fence} {n : Nat} {P : Program} {ops : Array Oper} {md : Region.Mode} {C : World → Prop}

def noDefers (l : List Oper) : Bool := l.all fun o => match o.op with | .defer _ => false | _ => true
theorem noDefers_spec {ops : Array Oper} (h : noDefers ops.toList = true) {i : Nat} {o : Oper} (ho : ops[i]? = some o) (c : Call) : o.op ≠ .defer c := by
  intro e
  unfold noDefers at h
  rw [List.all_eq_true] at h
  have := h o (by
    have := Array.mem_of_getElem? ho
    simpa using this)
  rw [e] at this; cases this
theorem wpIn_of_quietR {o : Oper} {a : Act} {K : Act → Prop} {K' : Act → World → Prop} {Q' : Exit → Act → World → Prop} {w : World} (hnd : ∀ c, o.op ≠ .defer c) (hw : C w) (h : ∀ a w', C w' → K a → K' a w')
    (ha : o.askedIn F P a C) (hh : o.quietIn F n P a C K) : o.wpIn F n P a w K' Q' := by
  obtain ⟨v, h1, h2⟩ := hh
  have h3 := h1 w hw
  unfold Oper.quietAtIn at h3
  unfold Oper.wpIn
  refine ⟨ha w hw, ?_⟩
  rw [Oper.semAt_eq _ _ _ hnd]
  generalize (execOp a.eval o).run P w = r at *
  cases r with
  | ok x w' =>
    cases x <;> simp only [Oper.quietUponIn] at h3 <;> simp only [Oper.uponIn]
    case value u =>
      obtain ⟨e1, e2⟩ := h3
      rw [e1, e2]
      exact h _ _ hw h2
    case skip =>
      obtain ⟨e1, e2⟩ := h3
      rw [e1, ← e2]
      exact h _ _ hw h2
    case enter f args =>
      obtain ⟨e1, hd, hc⟩ := h3
      rw [e1]
      exact ⟨hd, hc.mono fun e w'' ⟨he, hw''⟩ => by subst he; exact h _ _ hw'' h2⟩
  | halt x w' => simp only [Oper.quietUponIn] at h3
theorem wpOpIn_of_qOpInR {i : Nat} {a : Act} {K : Act → Prop} {K' : Act → World → Prop} {Q' : Exit → Act → World → Prop} {w : World} (hnd : noDefers ops.toList = true) (hC : C w) (h : ∀ a w', C w' → K a → K' a w')
    (hh : qOpIn F n P ops C i K a) : wpOpIn F n P ops Q' i K' a w := by
  unfold qOpIn at hh
  unfold wpOpIn
  split
  · rename_i ho; simp only [ho] at hh; exact h _ _ hC hh
  · rename_i o ho
    simp only [ho] at hh
    obtain ⟨ha, hh⟩ := hh
    split
    · rename_i hw; simp only [hw, if_true] at hh; exact wpIn_of_quietR (fun c => noDefers_spec hnd ho c) hC h ha hh
    · rename_i hw; simp only [hw] at hh; exact ⟨ha w hC, h _ _ hC hh⟩
theorem wpAnyIn_of_quietR {Q : Act → Prop} {Q' : Exit → Act → World → Prop} (hnd : noDefers ops.toList = true) (hQ : ∀ a w, C w → Q a → Q' .normal a w) : ∀ (fuel : Nat) (listed : Array Bool) (a : Act) (w : World), C w →
    wpAnyQIn F n P md ops C Q fuel listed a → wpAnyIn F n P md ops Q' fuel listed a w
  | 0, _, _, _, hw, h => ⟨h.1, hQ _ _ hw h.2⟩
  | fuel + 1, _, _, _, hw, h => ⟨fun h0 => hQ _ _ hw (h.1 h0), fun i hi => wpOpIn_of_qOpInR hnd hw (fun a' w' hw' => wpAnyIn_of_quietR hnd hQ fuel _ a' w' hw') (h.2 i hi)⟩
/-- reads alone -/
theorem region_quiet_round {id : Nat} {Q : Exit → Act → World → Prop} {a : Act} {w : World} {l : List Oper} (hnd : noDefers l = true) (hm : P.follows .mixedOrders = true) (hB : Region.lexB .any l.toArray = true)
    (h : wpQuietIn F n P l.toArray (fun w' => ∃ n, w' = w.drewN n) (fun a' => ∀ w', (∃ n, w' = w.drewN n) → Q .normal a' w') l a) : (Code.region id l.toArray true).wpIn F n P Q a w := by
  simp only [Region.lexB, Bool.and_eq_true] at hB
  refine wpIn_region_any hm (wpAnyIn_of_quietR (C := fun w' => ∃ n, w' = w.drewN n) (Q := fun a' => ∀ w', (∃ n, w' = w.drewN n) → Q .normal a' w') (by simpa using hnd) (fun _ w' hw' h => h w' hw') _ _ _ _ ⟨1, rfl⟩ ?_)
  have := wpAnyQIn_lex (F := F) (n := n) (C := fun w' => ∃ n, w' = w.drewN n) (md := .any) hB.1 l 0 (Array.replicate l.length false) a (by simp) (by simpa using hB.2) h
  simpa using this

/-! ### one operation behind all others -/
theorem lexR {Q : Act → Prop} (hs : Region.noSelect ops = true) : ∀ (l : List Oper) (k : Nat) (listed : Array Bool) (a : Act), (∀ j, j < l.length → l[j]? = ops[k + j]?) →
    Region.lexFrom md ops l.length k listed = true → wpQuietIn F n P ops C Q l a → wpAnyQIn F n P md ops C Q l.length listed a
  | [], _, _, _, _, hB, h => ⟨by simpa [Region.lexFrom] using hB, h⟩
  | o :: l, k, listed, a, hl, hB, h => by
    have h0 : ops[k]? = some o := by simpa using (hl 0 (by simp)).symm
    simp only [List.length_cons, Region.lexFrom, Bool.and_eq_true] at hB
    obtain ⟨⟨hr, hf⟩, hB'⟩ := hB
    have hst : qOpIn F n P ops C k (wpQuietIn F n P ops C Q l) a := by unfold qOpIn; simp only [h0]; exact h
    obtain ⟨v, hy, hK⟩ := yieldsQuiet_of_qOpIn h0 hst
    exact wpAnyQIn_first h0 (Region.noSelect_spec hs) l.length listed a (Region.free_spec h0 hf) (by simpa using hr) hy
      (lexR hs l (k + 1) _ _ (fun j hj => by have := hl (j + 1) (by simpa using hj); simpa [Nat.add_assoc, Nat.add_comm 1 j] using this) hB' hK)

/-- what an operation waits for -/
def depsOf (md : Region.Mode) (ops : Array Oper) (i : Nat) : List Nat := match ops[i]? with | some o => (o.after.toList.filter (Region.binds md)).map (·.on) | none => []
def covers (md : Region.Mode) (ops : Array Oper) : Nat → List Nat → List Nat
  | 0, S => S
  | k + 1, S => covers md ops k (S ++ S.flatMap (depsOf md ops)).eraseDups
/-- each operation but the last waits for earlier ones alone, and the last one for all -/
def lastB (md : Region.Mode) (ops : Array Oper) (m : Nat) : Bool :=
  (List.range m).all (fun i => match ops[i]? with | some o => o.after.all fun e => !Region.binds md e || decide (e.on < i) | none => false) &&
  (match ops[m]? with | some o => (List.range m).all (fun i => (covers md ops 8 (depsOf md ops m)).contains i) && o.after.all (fun e => !Region.binds md e || decide (e.on < m)) | none => false)
/-- what is listed has what it waits for listed -/
def ClosedL (md : Region.Mode) (ops : Array Oper) (L : Array Bool) (m : Nat) : Prop := ∀ i, i < m → L.getD i true = true → ∀ j ∈ depsOf md ops i, j < m ∧ L.getD j true = true
theorem covers_listed {md : Region.Mode} {ops : Array Oper} {L : Array Bool} {m : Nat} (hc : ClosedL md ops L m) : ∀ (k : Nat) (S : List Nat), (∀ i ∈ S, i < m ∧ L.getD i true = true) → ∀ i ∈ covers md ops k S, i < m ∧ L.getD i true = true
  | 0, S, h, i, hi => h i hi
  | k + 1, S, h, i, hi => covers_listed hc k _ (fun j hj => by
    rw [List.mem_eraseDups] at hj
    rcases List.mem_append.1 hj with hj | hj
    · exact h j hj
    · obtain ⟨a, ha, hja⟩ := List.mem_flatMap.1 hj
      exact hc a (h a ha).1 (h a ha).2 j hja) i hi
theorem depsOf_mem {md : Region.Mode} {ops : Array Oper} {i j : Nat} {o : Oper} (ho : ops[i]? = some o) : j ∈ depsOf md ops i ↔ ∃ e ∈ o.after, Region.binds md e = true ∧ e.on = j := by
  unfold depsOf
  rw [ho]
  simp only [List.mem_map, List.mem_filter, Array.mem_toList_iff]
  constructor
  · rintro ⟨e, ⟨h1, h2⟩, h3⟩; exact ⟨e, h1, h2, h3⟩
  · rintro ⟨e, h1, h2, h3⟩; exact ⟨e, ⟨h1, h2⟩, h3⟩

theorem getD_set (L : Array Bool) (i j : Nat) (d b : Bool) (hi : i < L.size) : (L.setIfInBounds i b).getD j d = if j = i then b else L.getD j d := by
  by_cases h : j = i
  · subst h; simp [hi]
  · rw [if_neg h]; simp [Array.getElem?_setIfInBounds, show ¬ i = j from fun e => h e.symm]

def openN (L : Array Bool) : Nat → Nat
  | 0 => 0
  | m + 1 => openN L m + if L.getD m true = false then 1 else 0
theorem openN_zero {L : Array Bool} : ∀ {m : Nat}, openN L m = 0 → ∀ i, i < m → L.getD i true = true
  | 0, _, i, hi => by omega
  | m + 1, h, i, hi => by
    unfold openN at h
    by_cases e : i = m
    · subst e
      rcases hb : L.getD i true with _ | _
      · rw [hb] at h; simp at h
      · rfl
    · exact openN_zero (m := m) (by omega) i (by omega)
theorem openN_pos {L : Array Bool} : ∀ {m : Nat}, openN L m ≠ 0 → ∃ i, i < m ∧ L.getD i true = false ∧ ∀ j, j < i → L.getD j true = true
  | 0, h => absurd rfl h
  | m + 1, h => by
    by_cases h0 : openN L m = 0
    · unfold openN at h
      rw [h0] at h
      refine ⟨m, by omega, ?_, fun j hj => openN_zero h0 j hj⟩
      rcases hb : L.getD m true with _ | _
      · rfl
      · rw [hb] at h; simp at h
    · obtain ⟨i, h1, h2⟩ := openN_pos h0
      exact ⟨i, by omega, h2⟩
theorem openN_set {L : Array Bool} {i : Nat} (hi : i < L.size) (hf : L.getD i true = false) : ∀ {m : Nat}, (i < m → openN (L.setIfInBounds i true) m + 1 = openN L m) ∧ (m ≤ i → openN (L.setIfInBounds i true) m = openN L m)
  | 0 => ⟨fun h => by omega, fun _ => rfl⟩
  | m + 1 => by
    obtain ⟨h1, h2⟩ := openN_set hi hf (m := m)
    constructor
    · intro h
      unfold openN
      rw [getD_set _ _ _ _ _ hi]
      by_cases e : m = i
      · subst e
        rw [if_pos rfl, h2 (Nat.le_refl _), hf]; simp
      · rw [if_neg e]
        have := h1 (by omega)
        omega
    · intro h
      have e : ¬ m = i := by omega
      unfold openN
      rw [getD_set _ _ _ _ _ hi, if_neg e, h2 (by omega)]
theorem getD_true {L : Array Bool} {i : Nat} (hi : i < L.size) (h : L.getD i true = true) : L.getD i false = true := by
  simpa [hi] using h
theorem ClosedL.set {md : Region.Mode} {ops : Array Oper} {L : Array Bool} {m i : Nat} {o : Oper} (h : ClosedL md ops L m) (ho : ops[i]? = some o) (hi : i < L.size) (him : i < m) (hd : ∀ e ∈ o.after, Region.binds md e = true → e.on < m ∧ L.getD e.on true = true) : ClosedL md ops (L.setIfInBounds i true) m := by
  intro k hk hl j hj
  have fin : ∀ j, j < m ∧ L.getD j true = true → j < m ∧ (L.setIfInBounds i true).getD j true = true := fun j h1 => ⟨h1.1, by
    rw [getD_set _ _ _ _ _ hi]; split
    · rfl
    · exact h1.2⟩
  by_cases e : k = i
  · subst e
    obtain ⟨e, he, hb, rfl⟩ := (depsOf_mem ho).1 hj
    exact fin _ (hd e he hb)
  · rw [getD_set _ _ _ _ _ hi, if_neg e] at hl
    exact fin _ (h k hk hl j hj)
theorem any_then {Q : Exit → Act → World → Prop} {m : Nat} {ol : Oper} (hnd : noDefers ops.toList = true) (hl : ops[m]? = some ol) (hm : ops.size = m + 1) (hB : lastB md ops m = true) :
    ∀ (fuel : Nat) (L : Array Bool) (a : Act) (w : World), C w → L.size = m + 1 → ClosedL md ops L m → L.getD m true = false → openN L m = fuel →
      wpAnyQIn F n P md ops C (fun a' => ∀ w', C w' → wpOpIn F n P ops Q m (fun a w => Q .normal a w) a' w') fuel (L.setIfInBounds m true) a → wpAnyIn F n P md ops Q (fuel + 1) L a w := by
  unfold lastB at hB
  rw [Bool.and_eq_true] at hB
  obtain ⟨hB1, hB2⟩ := hB
  rw [hl] at hB2
  simp only [Bool.and_eq_true] at hB2
  obtain ⟨hB2, hB3⟩ := hB2
  have early : ∀ i o, i < m → ops[i]? = some o → ∀ e ∈ o.after, Region.binds md e = true → e.on < i := by
    intro i o hi ho e he hb
    have := List.all_eq_true.1 hB1 i (List.mem_range.2 hi)
    rw [ho] at this
    have := Array.all_eq_true_iff_forall_mem.1 this e he
    rw [hb] at this
    simpa using this
  have late : ∀ e ∈ ol.after, Region.binds md e = true → e.on < m := by
    intro e he hb
    have := Array.all_eq_true_iff_forall_mem.1 hB3 e he
    rw [hb] at this
    simpa using this
  have waits : ∀ L : Array Bool, ClosedL md ops L m → (∀ e ∈ ol.after, Region.binds md e = true → L.getD e.on true = true) → ∀ i, i < m → L.getD i true = true := by
    intro L hcl hd i hi
    have h1 := List.all_eq_true.1 hB2 i (List.mem_range.2 hi)
    refine (covers_listed hcl 8 (depsOf md ops m) (fun j hj => ?_) i (by simpa using h1)).2
    obtain ⟨e, he, hb, rfl⟩ := (depsOf_mem hl).1 hj
    exact ⟨late e he hb, hd e he hb⟩
  intro fuel
  induction fuel with
  | zero =>
    intro L a w hw hs hcl hlm ho h
    have hall := openN_zero ho
    refine ⟨fun h0 => ?_, fun i hi => ?_⟩
    · have : m ∈ Region.ready md ops L := mem_ready.2 ⟨hlm, ol, hl, fun e he hb => getD_true (by have := late e he hb; omega) (hall _ (late e he hb))⟩
      rw [h0] at this; cases this
    · have him : i = m := by
        obtain ⟨h1, o, ho', _⟩ := mem_ready.1 hi
        have hlt := (Array.getElem?_eq_some_iff.1 ho').1
        apply Classical.byContradiction
        intro hne
        rw [hall i (by omega)] at h1; cases h1
      subst him
      refine wpOpIn_mono (fun a' w' hq => ?_) (h.2 w hw)
      refine ⟨?_, hq⟩
      apply List.eq_nil_iff_forall_not_mem.2
      intro j hj
      obtain ⟨h1, o, ho', _⟩ := mem_ready.1 hj
      have hlt := (Array.getElem?_eq_some_iff.1 ho').1
      rw [getD_set _ _ _ _ _ (by omega)] at h1
      by_cases e : j = i
      · rw [if_pos e] at h1; cases h1
      · rw [if_neg e, hall j (by omega)] at h1; cases h1
  | succ fuel ih =>
    intro L a w hw hs hcl hlm ho h
    obtain ⟨i0, g1, g2, g3⟩ := openN_pos (L := L) (m := m) (by omega)
    refine ⟨fun h0 => ?_, fun i hi => ?_⟩
    · obtain ⟨o0, ho0⟩ : ∃ o, ops[i0]? = some o := ⟨_, Array.getElem?_eq_getElem (by omega)⟩
      have : i0 ∈ Region.ready md ops L := mem_ready.2 ⟨g2, o0, ho0, fun e he hb => by
        have := early i0 o0 g1 ho0 e he hb
        exact getD_true (by omega) (g3 _ this)⟩
      rw [h0] at this; cases this
    · obtain ⟨h1, o, ho', hdep⟩ := mem_ready.1 hi
      have hlt := (Array.getElem?_eq_some_iff.1 ho').1
      by_cases him : i = m
      · subst him
        rw [hl] at ho'
        cases ho'
        have := waits L hcl (fun e he hb => by
          have h3 := hdep e he hb
          have h4 := late e he hb
          have hsz : e.on < L.size := by omega
          simpa [hsz] using h3) i0 g1
        rw [g2] at this; cases this
      · have hi2 : i ∈ Region.ready md ops (L.setIfInBounds m true) := by
          refine mem_ready.2 ⟨?_, o, ho', fun e he hb => ?_⟩
          · rw [getD_set _ _ _ _ _ (by omega), if_neg him]; exact h1
          · rw [getD_set _ _ _ _ _ (by omega)]
            by_cases e2 : e.on = m
            · rw [if_pos e2]
            · rw [if_neg e2]; exact hdep e he hb
        refine wpOpIn_of_qOpInR hnd hw (fun a' w' hw' hq => ?_) (h.2 i hi2)
        rw [Array.setIfInBounds_comm _ _ (fun e => him e.symm)] at hq
        have hcnt := (openN_set (L := L) (i := i) (by omega) h1 (m := m)).1 (by omega)
        exact ih (L.setIfInBounds i true) a' w' hw' (by simpa using hs) (hcl.set ho' (by omega) (by omega) (fun e he hb => by
          have h3 := hdep e he hb
          have h4 := early i o (by omega) ho' e he hb
          have hsz : e.on < L.size := by omega
          exact ⟨by omega, by simpa [hsz] using h3⟩)) (by rw [getD_set _ _ _ _ _ (by omega), if_neg (fun e => him e.symm)]; exact hlm) (by omega) hq
/-- reads, and one operation that may write, behind them -/
theorem region_then_round {id : Nat} {Q : Exit → Act → World → Prop} {a : Act} {w : World} {l : List Oper} {o : Oper} (hnd : noDefers (l ++ [o]) = true) (hm : P.follows .mixedOrders = true) (hs : Region.noSelect (l ++ [o]).toArray = true)
    (hB : Region.lexFrom .any (l ++ [o]).toArray l.length 0 ((Array.replicate (l.length + 1) false).setIfInBounds l.length true) = true) (hL : lastB .any (l ++ [o]).toArray l.length = true)
    (hO : openN (Array.replicate (l.length + 1) false) l.length = l.length)
    (h : wpQuietIn F n P (l ++ [o]).toArray (fun w' => ∃ n, w' = w.drewN n) (fun a' => ∀ w', (∃ n, w' = w.drewN n) → wpOpIn F n P (l ++ [o]).toArray Q l.length (fun a w => Q .normal a w) a' w') l a) :
    (Code.region id (l ++ [o]).toArray true).wpIn F n P Q a w := by
  refine wpIn_region_any hm ?_
  have h1 := lexR (F := F) (n := n) (P := P) (C := fun w' => ∃ n, w' = w.drewN n) (md := .any) hs l 0 ((Array.replicate (l.length + 1) false).setIfInBounds l.length true) a (fun j hj => by
    have : (l ++ [o])[j]? = l[j]? := List.getElem?_append_left hj
    simpa using this.symm) hB h
  have h2 := any_then (F := F) (n := n) (P := P) (C := fun w' => ∃ n, w' = w.drewN n) (md := .any) (m := l.length) (ol := o) (Q := Q) (by simpa using hnd) (by simp) (by simp) hL l.length (Array.replicate (l.length + 1) false) a { w with drawn := w.drawn + 1 } ⟨1, rfl⟩ (by simp) (fun i hi hl => by
    have : (Array.replicate (l.length + 1) false).getD i true = false := by simp [show i < l.length + 1 by omega]
    rw [this] at hl; cases hl) (by simp) hO h1
  simpa using h2
theorem wpQuietIn_mono {Q Q' : Act → Prop} (h : ∀ a, Q a → Q' a) : ∀ (l : List Oper) (a : Act), wpQuietIn F n P ops C Q l a → wpQuietIn F n P ops C Q' l a
  | [], a, hh => h a hh
  | o :: l, a, hh => by
    refine ⟨hh.1, ?_⟩
    have h2 := hh.2
    by_cases hw : Region.wanted o (yielded ops a.tmps) = true
    · rw [if_pos hw] at h2 ⊢
      exact Oper.quietIn_mono (wpQuietIn_mono h l) h2
    · rw [if_neg hw] at h2 ⊢
      exact wpQuietIn_mono h l _ h2
/-- the same at a region that is written out -/
theorem region_then {id : Nat} {Q : Exit → Act → World → Prop} {a : Act} {w : World} {l : List Oper} {o : Oper} (m : Nat) (ho : l[m]? = some o) (hlen : l.length = m + 1) (hg : o.guard = none) (hnd : noDefers l = true) (hm : P.follows .mixedOrders = true) (hs : Region.noSelect l.toArray = true)
    (hB : Region.lexFrom .any l.toArray m 0 ((Array.replicate (m + 1) false).setIfInBounds m true) = true) (hL : lastB .any l.toArray m = true)
    (hO : openN (Array.replicate (m + 1) false) m = m)
    (h : wpQuietIn F n P l.toArray (fun w' => ∃ n, w' = w.drewN n) (fun a' => ∀ w', (∃ n, w' = w.drewN n) → o.wpIn F n P a' w' (fun a w => Q .normal a w) Q) l.dropLast a) :
    (Code.region id l.toArray true).wpIn F n P Q a w := by
  have hd : l.dropLast.length = m := by simp [hlen]
  have hl : l = l.dropLast ++ [o] := by
    have hne : l ≠ [] := by intro e; rw [e] at hlen; simp at hlen
    have h1 := (List.dropLast_concat_getLast hne).symm
    have h2 : l.getLast hne = o := by
      rw [List.getLast_eq_getElem]
      have h3 : l[m]? = some (l[l.length - 1]'(by omega)) := by rw [List.getElem?_eq_getElem (by omega)]; congr 2; omega
      rw [h3] at ho; exact Option.some.inj ho
    rwa [h2] at h1
  have hw : ∀ ys, Region.wanted o ys = true := fun ys => by simp [Region.wanted, hg]
  generalize l.dropLast = k at *
  subst hl
  subst hd
  refine region_then_round hnd hm hs hB hL hO ?_
  have e : (k ++ [o]).toArray[k.length]? = some o := by simp
  refine wpQuietIn_mono (fun a' ha w' hw' => ?_) k a h
  unfold wpOpIn
  rw [e]
  simp only [hw, if_true]
  exact ha w' hw'
/-- over whatever class of worlds -/
theorem region_thenC {id : Nat} {Q : Exit → Act → World → Prop} {a : Act} {w : World} {l : List Oper} {o : Oper} (m : Nat) (ho : l[m]? = some o) (hlen : l.length = m + 1) (hg : o.guard = none) (hnd : noDefers l = true) (hm : P.follows .mixedOrders = true) (hs : Region.noSelect l.toArray = true)
    (hB : Region.lexFrom .any l.toArray m 0 ((Array.replicate (m + 1) false).setIfInBounds m true) = true) (hL : lastB .any l.toArray m = true)
    (hO : openN (Array.replicate (m + 1) false) m = m) (hC : C w.drew)
    (h : wpQuietIn F n P l.toArray C (fun a' => ∀ w', C w' → o.wpIn F n P a' w' (fun a w => Q .normal a w) Q) l.dropLast a) :
    (Code.region id l.toArray true).wpIn F n P Q a w := by
  have hd : l.dropLast.length = m := by simp [hlen]
  have hl : l = l.dropLast ++ [o] := by
    have hne : l ≠ [] := by intro e; rw [e] at hlen; simp at hlen
    have h1 := (List.dropLast_concat_getLast hne).symm
    have h2 : l.getLast hne = o := by
      rw [List.getLast_eq_getElem]
      have h3 : l[m]? = some (l[l.length - 1]'(by omega)) := by rw [List.getElem?_eq_getElem (by omega)]; congr 2; omega
      rw [h3] at ho; exact Option.some.inj ho
    rwa [h2] at h1
  have hw : ∀ ys, Region.wanted o ys = true := fun ys => by simp [Region.wanted, hg]
  generalize l.dropLast = k at *
  subst hl
  subst hd
  refine wpIn_region_any hm ?_
  have e : (k ++ [o]).toArray[k.length]? = some o := by simp
  have h0 : wpQuietIn F n P (k ++ [o]).toArray C (fun a' => ∀ w', C w' → wpOpIn F n P (k ++ [o]).toArray Q k.length (fun a w => Q .normal a w) a' w') k a := by
    refine wpQuietIn_mono (fun a' ha w' hw' => ?_) k a h
    unfold wpOpIn
    rw [e]
    simp only [hw, if_true]
    exact ha w' hw'
  have h1 := lexR (F := F) (n := n) (P := P) (C := C) (md := .any) hs k 0 ((Array.replicate (k.length + 1) false).setIfInBounds k.length true) a (fun j hj => by
    have : (k ++ [o])[j]? = k[j]? := List.getElem?_append_left hj
    simpa using this.symm) hB h0
  have h2 := any_then (F := F) (n := n) (P := P) (C := C) (md := .any) (m := k.length) (ol := o) (Q := Q) (by simpa using hnd) (by simp) (by simp) hL k.length (Array.replicate (k.length + 1) false) a { w with drawn := w.drawn + 1 } hC (by simp) (fun i hi hl => by
    have : (Array.replicate (k.length + 1) false).getD i true = false := by simp [show i < k.length + 1 by omega]
    rw [this] at hl; cases hl) (by simp) hO h1
  simpa using h2
theorem quiet_value {ops : Array Oper} {Q : Act → Prop} {o : Oper} {rest : List Oper} {a : Act} (v : Value) (hg : o.guard = none) (ha : ∀ w, o.about P w a.eval = none) (h : ∀ w', C w' → (execOp a.eval o).run P w' = .ok (.value v) w') (hr : wpQuietIn F n P ops C Q rest (a.put o.dst v)) : wpQuietIn F n P ops C Q (o :: rest) a := by
  refine ⟨fun w _ f hf => (by rw [ha w] at hf; cases hf), ?_⟩
  rw [if_pos (by simp [Region.wanted, hg])]
  exact ⟨v, fun w' hw' => by unfold Oper.quietAtIn; rw [h w' hw']; exact ⟨rfl, rfl⟩, hr⟩
theorem quiet_call {ops : Array Oper} {Q : Act → Prop} {o : Oper} {rest : List Oper} {a : Act} (v : Value) (f : Nat) (args : Array Value) (hg : o.guard = none) (hF : ∀ f, F.fn f) (hd : F.depth.isSome = true → 1 ≤ n) (h : ∀ w', C w' → (execOp a.eval o).run P w' = .ok (.enter f args) w') (hc : ∀ w', C w' → CallsIn F (n - 1) P f args w' (fun e w'' => e = .returned v ∧ C w''))
    (hr : wpQuietIn F n P ops C Q rest (a.put o.dst v)) : wpQuietIn F n P ops C Q (o :: rest) a := by
  refine ⟨fun w _ f _ => hF f, ?_⟩
  rw [if_pos (by simp [Region.wanted, hg])]
  exact ⟨v, fun w' hw' => by unfold Oper.quietAtIn; rw [h w' hw']; exact ⟨rfl, hd, hc w' hw'⟩, hr⟩
end
end Go.Proofs.Ytfjbggodniemeaa
