/- Appends of ints that leave blocks of other types. -/
import Derived.Test.YtfhcbaamibipcaaDoorPCls
set_option linter.unusedVariables false
set_option linter.unusedSimpArgs false
namespace Go.Proofs.YtfhcbaamibipcaaDoor
open Go.RowKit

/-- blocks that hold no ints are as they were -/
def KeepNI (w w' : World) : Prop := ∀ (k : Nat) (o : Obj), w.heap[k]? = some o → (∀ cs fr, o ≠ .cells cs 3 fr) → w'.heap[k]? = some o
theorem KeepNI.sp {w w' : World} {b n : Nat} {c : Nat → Nat} (h : KeepNI w w') (hs : SpF w b n c) : SpF w' b n c := h b _ hs (fun cs fr e => by
  injection e with _ h2 _
  exact absurd h2 (by decide))
theorem KeepNI.set {w w' : World} {b : Nat} {c : Array Value} (h : KeepNI w w') (hs : w.heap[b]? = some (.cells c 32)) : w'.heap[b]? = some (.cells c 32) := h b _ hs (fun cs fr e => by
  injection e with _ h2 _
  exact absurd h2 (by decide))
theorem Col.notInt {w0 w : World} {v : Value} {xs : List Int} (h : Col w0 w v xs) : ∀ r, v.ownBlock = some r → ∃ cs fr, w.heap[r]? = some (.cells cs 3 fr) := by
  intro r hr
  obtain ⟨_, h1 | ⟨g, cap, cur, h1, hb, hg, hn, hm, hc, ht⟩⟩ := h.own
  · rw [h1.1] at hr; cases hr
  · rw [h1] at hr; cases hr; exact ⟨_, _, hg⟩

theorem append_intK {ops : Array Oper} {rest : List Oper} {o : Oper} {a : Act} {w0 w : World} {Q : Exit → Act → World → Prop} (hgd : o.guard = none) (s x : Operand)
    (ho : o.op = .call { callee := .builtin .append, args := #[s, x], argTypes := #[22, 22] }) {v : Value} {xs : List Int} (hc : Col w0 w v xs) (hs : a.eval s = v)
    (y : Int) (hx : a.eval x = .slice (some ⟨w.heap.size, 0, none⟩) 1 1) (hlen : xs.length ≤ 1000000000)
    (h : ∀ v' w', Col w0 w' v' (xs ++ [y]) → v' ≠ .slice none 0 0 → KeepNI w w' → wpList Tryd.prog ops Q rest (a.put o.dst v') w') : wpList Tryd.prog ops Q (o :: rest) a (w.alloc (.cells #[.int .i64 y] 3)) := by
  obtain ⟨i0, hi, hz0, hz1, hz2⟩ := info_parts infoInt
  refine wpList_append_own _ hgd s x 22 ho w0.heap.size 3 i0 (.int .i64 0) 1 8 Tryd.underlying22 hi hz0 hz1 hz2 rfl (by decide) v xs.length (xs.map (Value.int .i64)) hs (hc.own.alloc _) ⟨w.heap.size, 0, none⟩ 1 1 [.int .i64 y] hx rfl (cell_one_new _ _ _) (by simp [Value.oneCell']) (by simp only [maxLen]; omega) (by omega) (by have := hc.below.size; simp; omega) ?_
  intro v' w' hown' hgrow hnil
  refine h v' w' ⟨by simpa using hown', ?_⟩ (fun e => by simpa using (hnil.1 e).2) ?_
  · refine (hc.below.alloc hc.below.size _).grown hgrow (by have := hc.below.size; simp; omega) ?_
    intro k hk
    exact (World.ownsRow.lt (hc.own.alloc (.cells #[.int .i64 y] 3)) k hk.symm.symm).1
  · intro k o' hk hno
    have hk2 : (w.alloc (.cells #[.int .i64 y] 3)).heap[k]? = some o' := alloc_old hk
    refine (hgrow.block k (heap_lt hk2) (fun e => ?_)).trans hk2
    obtain ⟨cs, fr, hr⟩ := hc.notInt k e.symm
    rw [hk] at hr
    exact hno cs fr (Option.some.inj hr)
end Go.Proofs.YtfhcbaamibipcaaDoor
