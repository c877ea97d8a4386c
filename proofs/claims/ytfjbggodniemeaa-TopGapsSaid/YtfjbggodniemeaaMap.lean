/- Maps that a call makes, by the list of what was put into them. -/
import Derived.Test.YtfjbggodniemeaaBase
import Derived.Laws.StructEq
import Derived.Maps.OwnIn
set_option linter.unusedVariables false
set_option linter.unusedSimpArgs false
namespace Go.Proofs.Ytfjbggodniemeaa
open Go.RowKit

/-- where a key stands in a list of keys, with what the entry holds -/
def findSpec {α : Type} [DecidableEq α] (a : α) : List α → List MapEntry → Nat → Option (Nat × Value)
  | k :: ks, e :: es, i => if a = k then some (i, e.val) else findSpec a ks es (i + 1)
  | _, _, _ => none
theorem findSpec_none {α : Type} [DecidableEq α] {a : α} : ∀ {ks : List α} {es : List MapEntry} {i : Nat}, a ∉ ks → findSpec a ks es i = none
  | [], _, _, _ => rfl
  | _ :: _, [], _, _ => rfl
  | k :: ks, e :: es, i, h => by
    simp only [List.mem_cons, not_or] at h
    rw [findSpec, if_neg h.1]; exact findSpec_none h.2
theorem findSpec_some {α : Type} [DecidableEq α] {a : α} : ∀ {ks : List α} {es : List MapEntry} {i : Nat}, a ∈ ks → es.length = ks.length → ∃ j, findSpec a ks es i = some (i + j, (es.getD j default).val) ∧ ks[j]? = some a
  | [], _, _, h, _ => by simp at h
  | k :: ks, [], _, _, hl => by simp at hl
  | k :: ks, e :: es, i, h, hl => by
    by_cases hk : a = k
    · subst hk; exact ⟨0, by simp [findSpec], rfl⟩
    · have h' : a ∈ ks := by simpa [hk] using h
      obtain ⟨j, h1, h2⟩ := findSpec_some (i := i + 1) h' (by simpa using hl)
      exact ⟨j + 1, by rw [findSpec, if_neg hk, h1]; simp [Nat.add_assoc, Nat.add_comm 1 j], by simpa using h2⟩

/-- how the keys of a map are told -/
structure KeyOK (kt : TypeId) {α : Type} [DecidableEq α] (ek : α → Value) : Prop where
  check : ∀ a em w, (Instr.checkKey em 10000 kt (ek a)).run Try.prog w = .ok () w
  find : ∀ a (es : List MapEntry) (ks : List α) w, es.map (·.key) = ks.map ek → (Instr.findKey kt (ek a) es).run Try.prog w = .ok (findSpec a ks es 0) w

/-- block b is a map that holds just these keys, with these elements -/
def MapIs {α : Type} (ek : α → Value) (w : World) (b : Nat) (kvs : List (α × Value)) : Prop :=
  ∃ es clock, w.heap[b]? = some (.map es clock) ∧ es.toList.map (·.key) = kvs.map (fun p => ek p.1) ∧ es.toList.map (·.val) = kvs.map (·.2)

theorem MapIs.made {α : Type} (ek : α → Value) (w : World) : MapIs ek (w.alloc (.map #[] 0)) w.heap.size [] := ⟨#[], 0, heap_alloc_new _ _, rfl, rfl⟩
theorem MapIs.of_block {α : Type} {ek : α → Value} {w w' : World} {b : Nat} {kvs : List (α × Value)} (h : MapIs ek w b kvs) (hb : w'.heap[b]? = w.heap[b]?) : MapIs ek w' b kvs := by
  obtain ⟨es, clock, h1, h2⟩ := h
  exact ⟨es, clock, hb.trans h1, h2⟩
theorem MapIs.lt {α : Type} {ek : α → Value} {w : World} {b : Nat} {kvs : List (α × Value)} (h : MapIs ek w b kvs) : b < w.heap.size := by
  obtain ⟨es, clock, h1, h2⟩ := h
  exact (Array.getElem?_eq_some_iff.1 h1).1

section
variable {α : Type} [DecidableEq α] {ek : α → Value} {w : World} {b : Nat} {kvs : List (α × Value)} {t kt et : TypeId}

theorem run_lookup_no (K : KeyOK kt ek) (ht : Try.prog.underlying t = some (.map kt et)) {z : Value} (hz : (zeroValue et).run Try.prog w = .ok z w) (h : MapIs ek w b kvs) {a : α} (ha : a ∉ kvs.map (·.1)) (ok : Bool) :
    (Instr.lookup t (.map (some b)) (ek a) ok).run Try.prog w = .ok (if ok then .tuple #[z, .bool false] else z) w := by
  obtain ⟨es, clock, h1, h2, h3⟩ := h
  have hf := K.find a es.toList (kvs.map (·.1)) w (by rw [h2, List.map_map]; rfl)
  rw [findSpec_none ha] at hf
  simp only [Instr.lookup, getObj, Sem.run_bind, run_underlying ht, Result.andThen_ok, Sem.run, h1, Sem.run_pure, K.check, hf, hz]

theorem find_yes (K : KeyOK kt ek) {es : Array MapEntry} (h2 : es.toList.map (·.key) = kvs.map (fun p => ek p.1)) (h3 : es.toList.map (·.val) = kvs.map (·.2)) {a : α} {v : Value} (hn : (kvs.map (·.1)).Nodup) (ha : (a, v) ∈ kvs) :
    ∃ j, (Instr.findKey kt (ek a) es.toList).run Try.prog w = .ok (some (j, v)) w := by
  have hf := K.find a es.toList (kvs.map (·.1)) w (by rw [h2, List.map_map]; rfl)
  have hl : es.toList.length = kvs.length := by have := congrArg List.length h3; simpa using this
  obtain ⟨j, h4, h5⟩ := findSpec_some (i := 0) (es := es.toList) (List.mem_map_of_mem (f := (·.1)) ha) (by simpa using hl)
  suffices hv : (es.toList.getD j default).val = v by rw [h4, hv] at hf; exact ⟨_, hf⟩
  obtain ⟨p, hp, hpa⟩ : ∃ p, kvs[j]? = some p ∧ p.1 = a := by simpa using h5
  obtain ⟨hj, hp'⟩ := List.getElem?_eq_some_iff.1 hp
  obtain ⟨i, hi, hi'⟩ := List.getElem_of_mem ha
  have hij : i = j := by
    refine (List.getElem_inj (xs := kvs.map (·.1)) (h₀ := by simpa using hi) (h₁ := by simpa using hj) hn).1 ?_
    simp [hi', hp', hpa]
  subst hij
  have hpv : p.2 = v := by rw [hi'] at hp'; rw [← hp']
  have : (es.toList.map (·.val))[i]? = some v := by rw [h3]; simp [hp, hpv]
  have hil : i < es.toList.length := by omega
  rw [List.getElem?_map, List.getElem?_eq_getElem hil] at this
  simp only [Option.map_some, Option.some.injEq] at this
  rw [List.getD_eq_getElem?_getD, List.getElem?_eq_getElem hil, Option.getD_some, this]

theorem run_lookup_yes (K : KeyOK kt ek) (ht : Try.prog.underlying t = some (.map kt et)) (h : MapIs ek w b kvs) {a : α} {v : Value} (hn : (kvs.map (·.1)).Nodup) (ha : (a, v) ∈ kvs) (ok : Bool) :
    (Instr.lookup t (.map (some b)) (ek a) ok).run Try.prog w = .ok (if ok then .tuple #[v, .bool true] else v) w := by
  obtain ⟨es, clock, h1, h2, h3⟩ := h
  obtain ⟨j, hf⟩ := find_yes (w := w) K h2 h3 hn ha
  simp only [Instr.lookup, getObj, Sem.run_bind, run_underlying ht, Result.andThen_ok, Sem.run, h1, Sem.run_pure, K.check, hf]

theorem run_mapUpdate_new (K : KeyOK kt ek) (ht : Try.prog.underlying t = some (.map kt et)) (h : MapIs ek w b kvs) {a : α} (ha : a ∉ kvs.map (·.1)) (v : Value) :
    ∃ w', (Instr.mapUpdate t (.map (some b)) (ek a) v).run Try.prog w = .ok () w' ∧ MapIs ek w' b (kvs ++ [(a, v)]) ∧ w.grownBy w' (some b) := by
  obtain ⟨es, clock, h1, h2, h3⟩ := h
  have hf := K.find a es.toList (kvs.map (·.1)) w (by rw [h2, List.map_map]; rfl)
  rw [findSpec_none ha] at hf
  have hb := (Array.getElem?_eq_some_iff.1 h1).1
  refine ⟨{ w with heap := w.heap.setIfInBounds b (.map (es.push { key := ek a, val := v, born := clock }) (clock + 1)) }, ?_, ⟨es.push { key := ek a, val := v, born := clock }, clock + 1, ?_, ?_, ?_⟩, ⟨rfl, rfl, rfl, by simp, fun k hk hne => ?_⟩⟩
  · simp only [Instr.mapUpdate, getObj, setObj, Sem.run_bind, run_underlying ht, Result.andThen_ok, Sem.run, h1, Sem.run_pure, K.check, hf]
  · simp [hb]
  · simp [h2]
  · simp [h3]
  · have : ¬ b = k := fun e => hne (by rw [e])
    simp [Array.getElem?_setIfInBounds, this]
end

/-! ### at the operation, for the walk -/
section
variable {α : Type} [DecidableEq α] {ek : α → Value} {w : World} {b : Nat} {kvs : List (α × Value)} {t kt et : TypeId} {ops : Array Oper} {rest : List Oper} {o : Oper} {a : Act} {Q : Exit → Act → World → Prop}

theorem wpList_op {v : Value} (hg : o.guard = none) {s : Sem Value} (he : execOp a.eval o = (do pure (.value (← s)))) {w' : World} (hs : s.run Try.prog w = .ok v w') (h : wpList Try.prog ops Q rest (a.put o.dst v) w') : wpList Try.prog ops Q (o :: rest) a w := by
  refine wpList_plain hg fun K' hK' => ?_
  unfold Oper.wp
  rw [he]
  simp only [Sem.run_bind, hs, Result.andThen_ok, Sem.run_pure]
  exact hK' _ _ h
theorem wpList_opu (hg : o.guard = none) {s : Sem Unit} (he : execOp a.eval o = (do s; pure .skip)) {w' : World} (hs : s.run Try.prog w = .ok () w') (h : wpList Try.prog ops Q rest (a.put o.dst undef) w') : wpList Try.prog ops Q (o :: rest) a w := by
  refine wpList_plain hg fun K' hK' => ?_
  unfold Oper.wp
  rw [he]
  simp only [Sem.run_bind, hs, Result.andThen_ok, Sem.run_pure]
  exact hK' _ _ h

theorem map_lookup_no (hg : o.guard = none) (m x : Operand) (ok : Bool) (hop : o.op = .lookup t m x ok) (K : KeyOK kt ek) (ht : Try.prog.underlying t = some (.map kt et)) {z : Value} (hz : (zeroValue et).run Try.prog w = .ok z w)
    (hm : a.eval m = .map (some b)) (h : MapIs ek w b kvs) (k : α) (hx : a.eval x = ek k) (hk : k ∉ kvs.map (·.1)) (hK : wpList Try.prog ops Q rest (a.put o.dst (if ok then .tuple #[z, .bool false] else z)) w) : wpList Try.prog ops Q (o :: rest) a w :=
  wpList_op hg (by simp [execOp, hop, hm, hx]) (run_lookup_no K ht hz h hk ok) hK
theorem map_lookup_yes (hg : o.guard = none) (m x : Operand) (ok : Bool) (hop : o.op = .lookup t m x ok) (K : KeyOK kt ek) (ht : Try.prog.underlying t = some (.map kt et))
    (hm : a.eval m = .map (some b)) (h : MapIs ek w b kvs) (k : α) (v : Value) (hx : a.eval x = ek k) (hn : (kvs.map (·.1)).Nodup) (hk : (k, v) ∈ kvs) (hK : wpList Try.prog ops Q rest (a.put o.dst (if ok then .tuple #[v, .bool true] else v)) w) : wpList Try.prog ops Q (o :: rest) a w :=
  wpList_op hg (by simp [execOp, hop, hm, hx]) (run_lookup_yes K ht h hn hk ok) hK
theorem map_update_new (hg : o.guard = none) (m x y : Operand) (hop : o.op = .mapUpdate t m x y) (K : KeyOK kt ek) (ht : Try.prog.underlying t = some (.map kt et))
    (hm : a.eval m = .map (some b)) (h : MapIs ek w b kvs) (k : α) (v : Value) (hx : a.eval x = ek k) (hy : a.eval y = v) (hk : k ∉ kvs.map (·.1))
    (hK : ∀ w', MapIs ek w' b (kvs ++ [(k, v)]) → w.grownBy w' (some b) → wpList Try.prog ops Q rest (a.put o.dst undef) w') : wpList Try.prog ops Q (o :: rest) a w := by
  obtain ⟨w', h1, h2, h3⟩ := run_mapUpdate_new K ht h hk v
  exact wpList_opu hg (by simp [execOp, hop, hm, hx, hy]) h1 (hK w' h2 h3)

variable {F : Fence} {nF : Nat}
theorem wpListIn_op {v : Value} (hg : o.guard = none) (hd : ∀ c, o.op ≠ .defer c) {s : Sem Value} (ha : o.about Try.prog w a.eval = none) (he : execOp a.eval o = (do pure (.value (← s)))) {w' : World} (hs : s.run Try.prog w = .ok v w') (h : wpListIn F nF Try.prog ops Q rest (a.put o.dst v) w') : wpListIn F nF Try.prog ops Q (o :: rest) a w := by
  refine wpListIn_plain hg fun K' hK' => ?_
  unfold Oper.wpIn
  refine ⟨by simp [ha], ?_⟩
  rw [Oper.semAt_plain F _ _ hd, he]
  simp only [Sem.run_bind, hs, Result.andThen_ok, Sem.run_pure]
  exact hK' _ _ h
theorem wpListIn_opu (hg : o.guard = none) (hd : ∀ c, o.op ≠ .defer c) {s : Sem Unit} (ha : o.about Try.prog w a.eval = none) (he : execOp a.eval o = (do s; pure .skip)) {w' : World} (hs : s.run Try.prog w = .ok () w') (h : wpListIn F nF Try.prog ops Q rest (a.put o.dst undef) w') : wpListIn F nF Try.prog ops Q (o :: rest) a w := by
  refine wpListIn_plain hg fun K' hK' => ?_
  unfold Oper.wpIn
  refine ⟨by simp [ha], ?_⟩
  rw [Oper.semAt_plain F _ _ hd, he]
  simp only [Sem.run_bind, hs, Result.andThen_ok, Sem.run_pure]
  exact hK' _ _ h

theorem map_lookup_no_in (hg : o.guard = none) (m x : Operand) (ok : Bool) (hop : o.op = .lookup t m x ok) (K : KeyOK kt ek) (ht : Try.prog.underlying t = some (.map kt et)) {z : Value} (hz : (zeroValue et).run Try.prog w = .ok z w)
    (hm : a.eval m = .map (some b)) (h : MapIs ek w b kvs) (k : α) (hx : a.eval x = ek k) (hk : k ∉ kvs.map (·.1)) (hK : wpListIn F nF Try.prog ops Q rest (a.put o.dst (if ok then .tuple #[z, .bool false] else z)) w) : wpListIn F nF Try.prog ops Q (o :: rest) a w :=
  wpListIn_op hg (by rw [hop]; intro c h; cases h) (by simp [Oper.about, hop]) (by simp [execOp, hop, hm, hx]) (run_lookup_no K ht hz h hk ok) hK
theorem map_lookup_yes_in (hg : o.guard = none) (m x : Operand) (ok : Bool) (hop : o.op = .lookup t m x ok) (K : KeyOK kt ek) (ht : Try.prog.underlying t = some (.map kt et))
    (hm : a.eval m = .map (some b)) (h : MapIs ek w b kvs) (k : α) (v : Value) (hx : a.eval x = ek k) (hn : (kvs.map (·.1)).Nodup) (hk : (k, v) ∈ kvs) (hK : wpListIn F nF Try.prog ops Q rest (a.put o.dst (if ok then .tuple #[v, .bool true] else v)) w) : wpListIn F nF Try.prog ops Q (o :: rest) a w :=
  wpListIn_op hg (by rw [hop]; intro c h; cases h) (by simp [Oper.about, hop]) (by simp [execOp, hop, hm, hx]) (run_lookup_yes K ht h hn hk ok) hK
theorem map_update_new_in (hg : o.guard = none) (m x y : Operand) (hop : o.op = .mapUpdate t m x y) (K : KeyOK kt ek) (ht : Try.prog.underlying t = some (.map kt et))
    (hm : a.eval m = .map (some b)) (h : MapIs ek w b kvs) (k : α) (v : Value) (hx : a.eval x = ek k) (hy : a.eval y = v) (hk : k ∉ kvs.map (·.1))
    (hK : ∀ w', MapIs ek w' b (kvs ++ [(k, v)]) → w.grownBy w' (some b) → wpListIn F nF Try.prog ops Q rest (a.put o.dst undef) w') : wpListIn F nF Try.prog ops Q (o :: rest) a w := by
  obtain ⟨w', h1, h2, h3⟩ := run_mapUpdate_new K ht h hk v
  exact wpListIn_opu hg (by rw [hop]; intro c h; cases h) (by simp [Oper.about, hop]) (by simp [execOp, hop, hm, hx, hy]) h1 (hK w' h2 h3)
end

section
variable {w : World} {ops : Array Oper} {rest : List Oper} {o : Oper} {a : Act} {Q : Exit → Act → World → Prop} {F : Fence} {nF : Nat}
/-- a whole array or struct is stored into its variable, inside a fence -/
theorem store_row_in (hgd : o.guard = none) (ty : TypeId) (x y : Operand) (ho : o.op = .store ty x y)
    (g : Nat) (cells : Array Value) (hx : a.eval x = .pointer (some ⟨g, 0, none⟩)) (hy : a.eval y = .agg cells)
    (t : TypeId) (old : Array Value) (hg : w.heap[g]? = some (.cells old t (0, 0))) (hi : (Try.prog.info? ty).map (·.size) = some cells.size)
    (hold : old.size = cells.size) (h1 : cells.all (·.oneCell') = true)
    (h : wpListIn F nF Try.prog ops Q rest (a.put o.dst undef) (w.setRow g cells)) : wpListIn F nF Try.prog ops Q (o :: rest) a w :=
  wpListIn_opu hgd (by rw [ho]; intro c h; cases h) (by simp [Oper.about, ho]) (s := Instr.storeAt ty (.pointer (some ⟨g, 0, none⟩)) (.agg cells)) (by simp [execOp, ho, hx, hy])
    (by simp only [Instr.storeAt, Instr.sureAddr, Sem.run_bind, Sem.run_pure, Result.andThen_ok, run_storeVar_row w g t ty old cells hg hi hold h1]) h
end
theorem setRow_old {w : World} {k i : Nat} {cs : Array Value} {o : Option Obj} (h : w.heap[k]? = o) (hne : k ≠ i) : (w.setRow i cs).heap[k]? = o := (setRow_other w i k cs hne).trans h
theorem setRow_same {w : World} {k : Nat} {cs old : Array Value} {t : TypeId} (h : w.heap[k]? = some (.cells old t (0, 0))) : (w.setRow k cs).heap[k]? = some (.cells cs t (0, 0)) := setRow_heap w k old cs t _ h
theorem keeps_setRow {w : World} {k : Nat} {cs old : Array Value} {t : TypeId} (h : w.heap[k]? = some (.cells old t (0, 0))) : KeepsOthers w (w.setRow k cs) :=
  ⟨by simp [World.setRow], fun i o hi ho => (setRow_other w k i cs (by rintro rfl; rw [h] at hi; cases hi; cases ho)).trans hi⟩

theorem run_findAsking {α : Type} [DecidableEq α] {ek : α → Value} {kt : TypeId} (heq : ∀ a b w, (Op.equal kt (ek a) (ek b)).run Try.prog w = .ok (decide (a = b)) w) (a : α) :
    ∀ (es : List MapEntry) (ks : List α) (i : Nat) (w : World), es.map (·.key) = ks.map ek → (Instr.findAsking kt (ek a) es i).run Try.prog w = .ok (findSpec a ks es i) w
  | [], [], _, _, _ => by simp [Instr.findAsking, findSpec]
  | [], k :: ks, _, _, h => by simp at h
  | e :: es, [], _, _, h => by simp at h
  | e :: es, k :: ks, i, w, h => by
    simp only [List.map_cons, List.cons.injEq] at h
    have ih := run_findAsking heq a es ks (i + 1) w h.2
    simp only [Instr.findAsking, Sem.run_bind, h.1, heq, Result.andThen_ok, findSpec]
    by_cases hk : a = k
    · simp [hk]
    · simp only [hk, decide_false, if_false, Bool.false_eq_true]; exact ih
end Go.Proofs.Ytfjbggodniemeaa
