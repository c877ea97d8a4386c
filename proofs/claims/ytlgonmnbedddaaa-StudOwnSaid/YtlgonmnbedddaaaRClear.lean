/- The reference's Clear and IsClear. -/
import Derived.Test.YtlgonmnbedddaaaPairLaw
import Derived.Test.YtlgonmnbedddaaaEnum
set_option linter.unusedVariables false
set_option linter.unusedSimpArgs false
namespace Go.Proofs.Ytlgonmnbedddaaa
open Go.RowKit Go.Shelf

/-- a whole array or struct is stored into its variable -/
theorem store_row {w : World} {ops : Array Oper} {rest : List Oper} {o : Oper} {a : Act} {Q : Exit → Act → World → Prop} (hgd : o.guard = none) (ty : TypeId) (x y : Operand) (ho : o.op = .store ty x y)
    (g : Nat) (cells : Array Value) (hx : a.eval x = .pointer (some ⟨g, 0, none⟩)) (hy : a.eval y = .agg cells)
    (t : TypeId) (old : Array Value) (hg : w.heap[g]? = some (.cells old t (0, 0))) (hi : (Try.prog.info? ty).map (·.size) = some cells.size)
    (hold : old.size = cells.size) (h1 : cells.all (·.oneCell') = true)
    (h : wpList Try.prog ops Q rest (a.put o.dst undef) (w.setRow g cells)) : wpList Try.prog ops Q (o :: rest) a w :=
  wpList_opu hgd (s := Instr.storeAt ty (.pointer (some ⟨g, 0, none⟩)) (.agg cells)) (by simp [execOp, ho, hx, hy])
    (by simp only [Instr.storeAt, Instr.sureAddr, Sem.run_bind, Sem.run_pure, Result.andThen_ok, run_storeVar_row w g t ty old cells hg hi hold h1]) h
theorem results_cell_tmp {P : Program} {fn : Func} {p1 p2 : Tmp} {t1 : TypeId} (h : fn.results = #[.cell p1 t1, .tmp p2]) {tmps : Array Value} {w : World} {g1 : Nat} {v1 v2 : Value}
    (h1 : tmps.getD p1 undef = .pointer (some ⟨g1, 0, none⟩)) (h2 : tmps.getD p2 undef = v2)
    (l1 : (loadVar t1 ⟨g1, 0, none⟩).run P w = .ok v1 w) : (results fn tmps).run P w = .ok (.tuple #[v1, v2]) w := by
  have h1' : tmps[p1]?.getD undef = .pointer (some ⟨g1, 0, none⟩) := by simpa using h1
  have h2' : tmps[p2]?.getD undef = v2 := by simpa using h2
  simp [results, h, h1', h2', asAddr, l1]

def refClearS (xs : List Int) : Value := match firstClash xs with | none => .tuple #[.agg zero4, .bool true] | some (p, q) => .tuple #[.agg (four p q), .bool false]
theorem refClear_none {xs : List Int} (h : ∀ r ∈ pairsN xs.length, firstIn xs (pairsN xs.length) r = none) : refClearS xs = .tuple #[.agg zero4, .bool true] := by
  unfold refClearS; rw [firstClash_none h]
theorem refClear_some {xs : List Int} {i d k : Nat} (h0 : ∀ r ∈ uptoN xs.length i, firstIn xs (pairsN xs.length) r = none) (h1 : ∀ e, 0 < e → e < d → Free xs i e xs.length) (h2 : Free xs i d k) (hd : 0 < d) (hik : i < k) (hk : k + d < xs.length)
    (he : gi xs (i + d) - gi xs i = gi xs (k + d) - gi xs k) : refClearS xs = .tuple #[.agg (four (i, i + d) (k, k + d)), .bool false] := by
  unfold refClearS
  have hp := pairs_prefix (n := xs.length) (k := i) (m := d - 1) (by omega) (by omega)
  rw [show i + 1 + (d - 1) = i + d by omega] at hp
  rw [firstClash_some hp (fun r hr => ?_) (firstIn_at h2 hd hik hk he)]
  rcases List.mem_append.1 hr with hr | hr
  · exact h0 r hr
  · obtain ⟨a, b⟩ := r
    rw [mem_rowN] at hr
    simp only at hr
    obtain ⟨rfl, h3, h4⟩ := hr
    obtain ⟨e, rfl⟩ : ∃ e, b = a + e := ⟨b - a, by omega⟩
    exact firstIn_free (h1 e (by omega) (by omega)) (by omega)
theorem upto_step {xs : List Int} {i : Nat} (h0 : ∀ r ∈ uptoN xs.length i, firstIn xs (pairsN xs.length) r = none) (h1 : ∀ e, 0 < e → e < xs.length - i → Free xs i e xs.length) : ∀ r ∈ uptoN xs.length (i + 1), firstIn xs (pairsN xs.length) r = none := by
  intro r hr
  rw [uptoN_succ] at hr
  rcases List.mem_append.1 hr with hr | hr
  · exact h0 r hr
  · obtain ⟨a, b⟩ := r
    rw [mem_rowN] at hr
    simp only at hr
    obtain ⟨rfl, h3, h4⟩ := hr
    obtain ⟨e, rfl⟩ : ∃ e, b = a + e := ⟨b - a, by omega⟩
    exact firstIn_free (h1 e (by omega) (by omega)) (by omega)
theorem free_succ {xs : List Int} {i d k : Nat} (h : Free xs i d k) (hne : ¬ gi xs (i + d) - gi xs i = gi xs (k + d) - gi xs k) : Free xs i d (k + 1) := by
  intro m h1 h2 h3
  by_cases e : m = k
  · subst e; exact hne
  · exact h m h1 (by omega) h3
theorem free_all {xs : List Int} {i d k : Nat} (h : Free xs i d k) (hk : xs.length ≤ k + d) : Free xs i d xs.length := fun m h1 h2 h3 => h m h1 (by omega) h3
theorem free_start (xs : List Int) (i d : Nat) : Free xs i d (i + 1) := fun m h1 h2 _ => by omega
theorem free_next {xs : List Int} {i d : Nat} (h : ∀ e, 0 < e → e < d → Free xs i e xs.length) (h2 : Free xs i d xs.length) : ∀ e, 0 < e → e < d + 1 → Free xs i e xs.length := fun e h3 h4 => by
  by_cases he : e = d
  · subst he; exact h2
  · exact h e h3 (by omega)

/-- what stands while Clear runs -/
def RBase (w : World) (v : Value) (xs : List Int) (W : World) : Prop := W.heap[w.heap.size]? = some (.cells zero4 34) ∧ Below w.heap.size w W

theorem RBase.drewN {w : World} {v : Value} {xs : List Int} {W : World} (h : RBase w v xs W) (m : Nat) : RBase w v xs (W.drewN m) :=
  ⟨((below_drewN W m).block _ (heap_lt h.1)).trans h.1, h.2.trans ((below_drewN W m).mono h.2.size)⟩
end Go.Proofs.Ytlgonmnbedddaaa
