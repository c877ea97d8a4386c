/- The reference's All. -/
import Derived.Test.YtlgonmnbedddaaaMat
import Derived.Test.YtlgonmnbedddaaaAllLaw
import Derived.Test.YtlgonmnbedddaaaRClear
import Derived.Test.YtlgonmnbedddaaaTame
import Derived.Test.YtlgonmnbedddaaaLens
import Derived.Laws.AppendOwnNone
set_option linter.unusedVariables false
set_option linter.unusedSimpArgs false
namespace Go.Proofs.Ytlgonmnbedddaaa
open Go.RowKit

/-- 'out = append(out, row...)' of a row that may be nil -/
theorem append_row_ints {ops : Array Oper} {rest : List Oper} {o : Oper} {a : Act} {w0 w : World} {Q : Exit → Act → World → Prop} (hgd : o.guard = none) (s x : Operand)
    (ho : o.op = .call { callee := .builtin .append, args := #[s, x], argTypes := #[22, 22] }) {v : Value} {xs ys : List Int} (hc : Col w0 w v xs) (hs : a.eval s = v)
    {r : Value} {base : Nat} (hx : a.eval x = r) (hr : OwnRow base w r ys) (hlen : xs.length ≤ 1000000000) (hlen2 : ys.length ≤ 1000000000)
    (h : ∀ v' w', Col w0 w' v' (xs ++ ys) → wpList Try.prog ops Q rest (a.put o.dst v') w') : wpList Try.prog ops Q (o :: rest) a w := by
  have hrd := hr.reads
  obtain ⟨h1, h2 | ⟨g, cap, cur, h3, _⟩⟩ := hr
  · obtain ⟨rfl, h4⟩ := h2
    obtain rfl : ys = [] := List.eq_nil_of_length_eq_zero h4
    obtain ⟨i0, hi, hz0, hz1, hz2⟩ := info_parts infoInt
    refine wpList_append_own_none hgd s x 22 ho w0.heap.size 3 i0 1 Try.underlying22 hi v xs.length (xs.map (Value.int .i64)) hs hc.own hx (h v w (by simpa using hc))
  · subst h3
    exact append_ints hgd s x ho hc hs hx hrd hlen hlen2 (fun v' w' h5 _ => h v' w' h5)

theorem MCol.one (w : World) : MCol w (w.alloc (.cells #[.slice none 0 0] 22)) (.slice (some ⟨w.heap.size, 0, none⟩) 1 1) [[]] := by
  refine ⟨[.slice none 0 0], ⟨rfl, .inr ⟨w.heap.size, 1, #[.slice none 0 0], rfl, Nat.le_refl _, heap_alloc_new _ _, Nat.le_refl _, by simp [maxLen], rfl, rfl⟩⟩, ⟨World.ownsRow_nil _ _ _ _, trivial⟩, (Below.refl _ _).alloc (Nat.le_refl _) _⟩

/-- the next level, as far as the list at k -/
def lvl (n i k : Nat) : List (List Int) := ((allTo n i).take k).flatMap fun l => stepAll n l n
theorem lvl_succ {n i k : Nat} (hk : k < (allTo n i).length) : lvl n i (k + 1) = lvl n i k ++ stepAll n ((allTo n i).getD k []) n := by
  unfold lvl
  rw [List.take_succ_eq_append_getElem hk, List.flatMap_append]
  simp [hk]
theorem lvl_all {n i k : Nat} (hk : (allTo n i).length ≤ k) : lvl n i k = allTo n (i + 1) := by
  unfold lvl; rw [List.take_of_length_le hk]; rfl
theorem allTo_len {n i : Nat} (hn : n ≤ 7) (hi : i ≤ n) : (allTo n i).length ≤ 1000000 := by
  rw [allTo_enum]
  refine Nat.le_trans (enumL_len n i []) (Nat.le_trans (Nat.pow_le_pow_left hn i) (Nat.le_trans (Nat.pow_le_pow_right (by omega) (show i ≤ 7 by omega)) (by decide)))
theorem lvl_len {n i : Nat} (hn : n ≤ 7) (hi : i < n) (k : Nat) : (lvl n i k).length ≤ 1000000 := by
  have h : (lvl n i k).length ≤ (allTo n (i + 1)).length := by
    have e : allTo n (i + 1) = lvl n i k ++ ((allTo n i).drop k).flatMap (fun l => stepAll n l n) := by
      unfold lvl
      rw [← List.flatMap_append, List.take_append_drop]; rfl
    rw [e, List.length_append]; omega
  exact Nat.le_trans h (allTo_len hn hi)
theorem stepAll_len (n : Nat) (l : List Int) : ∀ m, (stepAll n l m).length ≤ m
  | 0 => by simp [stepAll]
  | m + 1 => by
    rw [stepAll_succ, List.length_append]
    have := stepAll_len n l m
    split <;> simp <;> omega

end Go.Proofs.Ytlgonmnbedddaaa
