/- StudOwn: rows that are written over. -/
import Derived.Test.YtlgonmnbedddaaaMat
set_option linter.unusedVariables false
set_option linter.unusedSimpArgs false
namespace Go.Proofs.Ytlgonmnbedddaaa
open Go.RowKit

/-- a row of ints in a block of ints from B on; what it holds is free -/
def IRow (B : Nat) (w : World) (r : Value) (L : Nat) : Prop :=
  (r = .slice none 0 0 ∧ L = 0) ∨ ∃ g cap cur, r = .slice (some ⟨g, 0, none⟩) L cap ∧ B ≤ g ∧ w.heap[g]? = some (.cells cur 3 (0, 0)) ∧ L ≤ cap ∧ cap ≤ maxLen ∧ cur.size = cap
theorem IRow.of {B : Nat} {w : World} {r : Value} {xs : List Int} (h : OwnRow B w r xs) : IRow B w r xs.length := by
  obtain ⟨h1, ⟨h2, h3⟩ | ⟨g, cap, cur, h2, h3, h4, h5, h6, h7, _⟩⟩ := h
  · exact .inl ⟨h2, h3⟩
  · exact .inr ⟨g, cap, cur, h2, h3, h4, h5, h6, by omega⟩
theorem IRow.below {B : Nat} {w w' : World} {r : Value} {L : Nat} (h : IRow B w r L) (hb : Below w.heap.size w w') : IRow B w' r L := by
  rcases h with h | ⟨g, cap, cur, h2, h3, h4, h5, h6, h7⟩
  · exact .inl h
  · exact .inr ⟨g, cap, cur, h2, h3, (hb.block g (heap_lt h4)).trans h4, h5, h6, h7⟩
theorem not_both {w : World} {g : Nat} {c1 c2 : Array Value} {f1 f2 : Nat × Nat} (h1 : w.heap[g]? = some (.cells c1 3 f1)) (h2 : w.heap[g]? = some (.cells c2 22 f2)) : False := by
  rw [h1] at h2
  injection h2 with h2
  injection h2 with _ h2 _
  exact absurd h2 (by decide)
theorem IRow.grown {B : Nat} {w w' : World} {r : Value} {L : Nat} {row : Option Nat} (h : IRow B w r L) (hg : w.grownBy w' row) (hr : ∀ r, row = some r → ∃ cs fr, w.heap[r]? = some (.cells cs 22 fr)) : IRow B w' r L := by
  rcases h with h | ⟨g, cap, cur, h2, h3, h4, h5, h6, h7⟩
  · exact .inl h
  · refine .inr ⟨g, cap, cur, h2, h3, (hg.block g (heap_lt h4) (fun e => ?_)).trans h4, h5, h6, h7⟩
    obtain ⟨cs, fr, hc⟩ := hr g e.symm
    exact not_both h4 hc
theorem IRow.set {B : Nat} {w : World} {r : Value} {L g j : Nat} {v : Value} {cur0 : Array Value} (h : IRow B w r L) (hg : w.heap[g]? = some (.cells cur0 3 (0, 0))) : IRow B (w.setCell ⟨g, j, none⟩ v) r L := by
  rcases h with h | ⟨g2, cap, cur, h2, h3, h4, h5, h6, h7⟩
  · exact .inl h
  · by_cases e : g2 = g
    · subst e
      rw [h4] at hg
      cases hg
      exact .inr ⟨g2, cap, _, h2, h3, heap_setCell_same _ _ _ _ _ _ h4, h5, h6, by simpa using h7⟩
    · exact .inr ⟨g2, cap, cur, h2, h3, (heap_setCell_other _ _ _ _ e).trans h4, h5, h6, h7⟩

/-- the slice of rows, while cells of rows are written -/
def Outs (B : Nat) (w2 : World) (A : Nat) (vs : List Value) (W : World) : Prop :=
  Below B w2 W ∧ ∃ cur, W.heap[A]? = some (.cells cur 22 (0, 0)) ∧ (∀ (k : Nat) (u : Value), vs[k]? = some u → cur[k]? = some u) ∧ ∀ u ∈ vs, ∃ L, IRow B W u L
theorem Outs.at {B : Nat} {w2 : World} {A : Nat} {vs : List Value} {W : World} (h : Outs B w2 A vs W) {k : Nat} {u : Value} (hk : vs[k]? = some u) : W.cell? ⟨A, k, none⟩ = some u ∧ ∃ L, IRow B W u L := by
  obtain ⟨h1, cur, h2, h3, h4⟩ := h
  exact ⟨cell_of h2 (h3 k _ hk), h4 _ (List.mem_of_getElem? hk)⟩
theorem Outs.set {B : Nat} {w2 : World} {A : Nat} {vs : List Value} {W : World} {g j : Nat} {v : Value} {cur0 : Array Value} (h : Outs B w2 A vs W) (hB : B ≤ g) (hg : W.heap[g]? = some (.cells cur0 3 (0, 0))) : Outs B w2 A vs (W.setCell ⟨g, j, none⟩ v) := by
  obtain ⟨h1, cur, h2, h3, h4⟩ := h
  refine ⟨h1.setCell hB _, cur, (heap_setCell_other _ _ _ _ (fun e => ?_)).trans h2, h3, fun u hu => ?_⟩
  · subst e; exact not_both hg h2
  · obtain ⟨L, h5⟩ := h4 u hu
    exact ⟨L, h5.set hg⟩

/-- 'out = append(out, rows...)' of a slice of rows that is one's own -/
theorem append_rows {ops : Array Oper} {rest : List Oper} {o : Oper} {a : Act} {w : World} {Q : Exit → Act → World → Prop} (hgd : o.guard = none) (s x : Operand)
    (ho : o.op = .call { callee := .builtin .append, args := #[s, x], argTypes := #[25, 25] }) {B : Nat} {v : Value} {vs news : List Value} {g m c : Nat} (hc : w.ownsRow B 22 1 v vs.length vs) (hB : B ≤ w.heap.size) (hs : a.eval s = v)
    (hx : a.eval x = .slice (some ⟨g, 0, none⟩) m c) (hm : news.length = m) (hnews : ∀ j u, news[j]? = some u → w.cell? ⟨g, j, none⟩ = some u) (h1 : ∀ u ∈ news, u.oneCell' = true) (hlen : vs.length + m ≤ 1000000)
    (h : ∀ v' w', w'.ownsRow B 22 1 v' (vs ++ news).length (vs ++ news) → Below B w w' → (∀ r L, IRow B w r L → IRow B w' r L) → wpList Try.prog ops Q rest (a.put o.dst v') w') : wpList Try.prog ops Q (o :: rest) a w := by
  obtain ⟨i0, hi, hz0, hz1, hz2⟩ := info_parts infoInts
  have hadd : ∀ j, (⟨g, 0, none⟩ : Addr).add j = ⟨g, j, none⟩ := fun j => by unfold Addr.add; split <;> simp_all
  refine wpList_append_own _ hgd s x 25 ho B 22 i0 (.slice none 0 0) 1 24 Try.underlying25 hi hz0 hz1 hz2 rfl (by decide) v vs.length vs hs hc ⟨g, 0, none⟩ m c news hx (by omega) (fun j u hj => by rw [hadd]; exact hnews j u hj) h1 (by simp only [maxLen]; omega) (by omega) hB ?_
  intro v' w' hown' hgrow hnil
  refine h v' w' (by rw [List.length_append, hm]; exact hown') ((Below.refl B w).grown hgrow hB (fun k e => (World.ownsRow.lt hc k e).1)) (fun r L hr => hr.grown hgrow ?_)
  intro k hk
  obtain ⟨h0, h2 | ⟨g2, cap, cur, h3, h4, h5, h6⟩⟩ := hc
  · rw [h2.1] at hk; cases hk
  · rw [h3] at hk; cases hk; exact ⟨_, _, h5⟩
theorem run_append_none (g : Nat) (ty : TypeId) (w : World) (cs : Array Value) (hg : w.heap[g]? = some (.cells cs 22 (0, 0))) : (Builtin.append_ #[25, 25] ty #[.slice (some ⟨g, 0, none⟩) 0 0, .slice none 0 0]).run Try.prog w = .ok (.slice (some ⟨g, 0, none⟩) 0 0) w := by
  obtain ⟨i0, hi, hz0, hz1, hz2⟩ := info_parts infoInts
  simp [Builtin.append_, run_underlying Try.underlying25, sizeOf, typeInfo, hi, Builtin.lenOf, Builtin.firstCells, loadCells, loadCellsFrom, storeCells]
/-- the first append: of the rows of a slice that is one's own, or nil -/
theorem append_first {ops : Array Oper} {rest : List Oper} {o : Oper} {a : Act} {w : World} {Q : Exit → Act → World → Prop} (hgd : o.guard = none) (s x : Operand)
    (ho : o.op = .call { callee := .builtin .append, args := #[s, x], argTypes := #[25, 25] }) {B B' g0 : Nat} {ts : List Value} {tv : Value} (hc : w.ownsRow B 22 1 (.slice (some ⟨g0, 0, none⟩) 0 0) ([] : List Value).length []) (hB : B ≤ w.heap.size)
    (hs : a.eval s = .slice (some ⟨g0, 0, none⟩) 0 0) (hx : a.eval x = tv) (ht : w.ownsRow B' 22 1 tv ts.length ts) (h1 : ∀ u ∈ ts, u.oneCell' = true) (hlen : ts.length ≤ 1000)
    (h : ∀ v' w', w'.ownsRow B 22 1 v' ts.length ts → Below B w w' → (∀ r L, IRow B w r L → IRow B w' r L) → wpList Try.prog ops Q rest (a.put o.dst v') w') : wpList Try.prog ops Q (o :: rest) a w := by
  obtain ⟨ht1, ⟨rfl, h0⟩ | ⟨g, cap, cur, rfl, hb, hg, hn, hm, hcs, htk⟩⟩ := ht
  · obtain rfl : ts = [] := List.length_eq_zero_iff.1 h0
    obtain ⟨_, ⟨hh, _⟩ | ⟨g2, cap2, cur2, he2, hb2, hg2, a1, a2, a3, a4⟩⟩ := hc
    · cases hh
    · cases he2
      refine wpList_plain hgd fun _ hK => ?_
      have hrun := run_append_none g0 o.type w _ hg2
      unfold Oper.wp execOp
      simp only [ho, resolve, invoke, builtin, Sem.run_bind, Sem.run_pure, Result.andThen_ok, List.map_toArray, List.map_cons, List.map_nil, hs, hx, hrun]
      exact hK _ _ (h _ _ ⟨rfl, .inr ⟨g0, 0, cur2, rfl, hb2, hg2, a1, a2, a3, a4⟩⟩ (Below.refl _ _) (fun r L hr => hr))
  · have hct : ∀ j u, ts[j]? = some u → w.cell? ⟨g, j, none⟩ = some u := by
      intro j u hj
      have hjl : j < ts.length := (List.getElem?_eq_some_iff.1 hj).1
      refine cell_of hg ?_
      rw [← htk, List.getElem?_take, if_pos (by omega)] at hj
      simpa using hj
    exact append_rows hgd s x ho hc hB hs hx rfl hct h1 (by simp; omega) (fun v' w' k1 k2 k3 => h v' w' (by simpa using k1) k2 k3)
theorem own_some {w : World} {B : Nat} {v : Value} {vs : List Value} (h : w.ownsRow B 22 1 v vs.length vs) (h0 : 0 < vs.length) :
    ∃ A cap cur, v = .slice (some ⟨A, 0, none⟩) vs.length cap ∧ B ≤ A ∧ w.heap[A]? = some (.cells cur 22 (0, 0)) ∧ vs.length ≤ cap ∧ cap ≤ maxLen ∧ ∀ (k : Nat) (u : Value), vs[k]? = some u → cur[k]? = some u := by
  obtain ⟨h1, ⟨_, h2⟩ | ⟨g, cap, cur, h2, h3, h4, h5, h6, h7, h8⟩⟩ := h
  · omega
  · refine ⟨g, cap, cur, h2, h3, h4, h5, h6, fun k u hk => ?_⟩
    have hkl : k < vs.length := (List.getElem?_eq_some_iff.1 hk).1
    rw [← h8, List.getElem?_take, if_pos (by omega)] at hk
    simpa using hk
end Go.Proofs.Ytlgonmnbedddaaa
