/- Slices of slices of ints that a call has collected. -/
import Derived.Test.YtfjbggodniemeaaBase
set_option linter.unusedVariables false
set_option linter.unusedSimpArgs false
namespace Go.Proofs.Ytfjbggodniemeaa
open Go.RowKit

theorem infoInts : (Try.prog.info? 51).map (fun i => (i.zero, i.size, i.bytes)) = some (some (.slice none 0 0), 1, 24) := by kernel_rfl

/-- a row of ints that lies in memory from block 'base' on -/
def OwnRow (base : Nat) (w : World) (v : Value) (xs : List Int) : Prop := w.ownsRow base 3 1 v xs.length (xs.map (Value.int .i64))
theorem OwnRow.reads {base : Nat} {w : World} {v : Value} {xs : List Int} (h : OwnRow base w v xs) : Reads w v xs := Reads.own h
theorem OwnRow.mono {base b : Nat} {w : World} {v : Value} {xs : List Int} (h : OwnRow base w v xs) (hb : b ≤ base) : OwnRow b w v xs := own_mono h hb
theorem OwnRow.below {base : Nat} {w w' : World} {v : Value} {xs : List Int} (h : OwnRow base w v xs) (hb : Below w.heap.size w w') : OwnRow base w' v xs := World.ownsRow.below' h hb
theorem OwnRow.one {base : Nat} {w : World} {v : Value} {xs : List Int} (h : OwnRow base w v xs) : v.oneCell' = true := by
  obtain ⟨_, h1 | ⟨g, cap, cur, h1, _⟩⟩ := h
  · rw [h1.1]; rfl
  · rw [h1]; rfl
theorem Col.slice {w0 w : World} {v : Value} {xs : List Int} (h : Col w0 w v xs) : ∃ a l c, v = .slice a l c := by
  obtain ⟨a, cap, h1, _⟩ := h.reads
  exact ⟨a, _, cap, h1⟩
theorem Col.row {w0 w : World} {v : Value} {xs : List Int} (h : Col w0 w v xs) : OwnRow w0.heap.size w v xs := h.own
/-- a row keeps what it is while a block of another type is written -/
theorem OwnRow.grown {base : Nat} {w w' : World} {v : Value} {xs : List Int} {row : Option Nat} (h : OwnRow base w v xs) (hg : w.grownBy w' row) (hr : ∀ r, row = some r → ∃ cs fr, w.heap[r]? = some (.cells cs 51 fr)) : OwnRow base w' v xs := by
  obtain ⟨h1, h2 | ⟨g, cap, cur, h3, h4, h5, h6⟩⟩ := h
  · exact ⟨h1, .inl h2⟩
  · refine ⟨h1, .inr ⟨g, cap, cur, h3, h4, ?_, h6⟩⟩
    rw [hg.block g (heap_lt h5) (fun e => ?_)]
    · exact h5
    · obtain ⟨cs, fr, hc⟩ := hr g e.symm
      rw [h5] at hc
      injection hc with hc
      injection hc with _ hc _
      exact absurd hc (by decide)

/-- the values of the rows, one by one -/
def RowsAre (base : Nat) (w : World) : List Value → List (List Int) → Prop
  | [], [] => True
  | v :: vs, x :: xs => OwnRow base w v x ∧ RowsAre base w vs xs
  | _, _ => False
theorem RowsAre.len {base : Nat} {w : World} : ∀ {vs : List Value} {xs : List (List Int)}, RowsAre base w vs xs → vs.length = xs.length
  | [], [], _ => rfl
  | _ :: _, _ :: _, h => by simp [RowsAre.len h.2]
  | [], _ :: _, h => h.elim
  | _ :: _, [], h => h.elim
theorem RowsAre.imp {base b' : Nat} {w w' : World} (H : ∀ v x, OwnRow base w v x → OwnRow b' w' v x) : ∀ {vs : List Value} {xs : List (List Int)}, RowsAre base w vs xs → RowsAre b' w' vs xs
  | [], [], _ => trivial
  | _ :: _, _ :: _, h => ⟨H _ _ h.1, RowsAre.imp H h.2⟩
  | [], _ :: _, h => h.elim
  | _ :: _, [], h => h.elim
theorem RowsAre.snoc {base : Nat} {w : World} {v : Value} {x : List Int} (hv : OwnRow base w v x) : ∀ {vs : List Value} {xs : List (List Int)}, RowsAre base w vs xs → RowsAre base w (vs ++ [v]) (xs ++ [x])
  | [], [], _ => ⟨hv, trivial⟩
  | _ :: _, _ :: _, h => ⟨h.1, RowsAre.snoc hv h.2⟩
  | [], _ :: _, h => h.elim
  | _ :: _, [], h => h.elim
theorem RowsAre.at {base : Nat} {w : World} : ∀ {vs : List Value} {xs : List (List Int)} (k : Nat), RowsAre base w vs xs → k < xs.length → ∃ v, vs[k]? = some v ∧ OwnRow base w v (xs.getD k [])
  | [], [], k, _, h => by simp at h
  | v :: _, _ :: _, 0, h, _ => ⟨v, rfl, h.1⟩
  | _ :: _, _ :: _, k + 1, h, hk => by
    obtain ⟨u, h1, h2⟩ := RowsAre.at k h.2 (by simpa using hk)
    exact ⟨u, by simpa using h1, by simpa using h2⟩
  | [], _ :: _, k, h, _ => h.elim
  | _ :: _, [], k, h, _ => h.elim
theorem RowsAre.ones {base : Nat} {w : World} : ∀ {vs : List Value} {xs : List (List Int)}, RowsAre base w vs xs → ∀ u ∈ vs, u.oneCell' = true
  | [], [], _, u, hu => by cases hu
  | _ :: _, _ :: _, h, u, hu => by
    rcases List.mem_cons.1 hu with rfl | hu
    · exact h.1.one
    · exact RowsAre.ones h.2 u hu
  | [], _ :: _, h, _, _ => h.elim
  | _ :: _, [], h, _, _ => h.elim

/-- 'v' is a slice of rows that has been collected since the world was 'w0'; outer slice and rows lie in memory that is new since then -/
def MCol (w0 w : World) (v : Value) (xss : List (List Int)) : Prop := ∃ vs, w.ownsRow w0.heap.size 51 1 v vs.length vs ∧ RowsAre w0.heap.size w vs xss ∧ Below w0.heap.size w0 w
theorem MCol.nil (w0 : World) : MCol w0 w0 (.slice none 0 0) [] := ⟨[], World.ownsRow_nil _ _ _ _, trivial, Below.refl _ _⟩
theorem MCol.below {w0 w : World} {v : Value} {xss : List (List Int)} (h : MCol w0 w v xss) : Below w0.heap.size w0 w := by obtain ⟨_, _, _, h⟩ := h; exact h
theorem MCol.step {w0 w w' : World} {v : Value} {xss : List (List Int)} (h : MCol w0 w v xss) (hb : Below w.heap.size w w') : MCol w0 w' v xss := by
  obtain ⟨vs, h1, h2, h3⟩ := h
  exact ⟨vs, World.ownsRow.below' h1 hb, h2.imp fun _ _ h => h.below hb, h3.trans (hb.mono h3.size)⟩
theorem MCol.lower {w w0 w' : World} {v : Value} {xss : List (List Int)} (h : MCol w0 w' v xss) (hb : Below w.heap.size w w0) : MCol w w' v xss := by
  obtain ⟨vs, h1, h2, h3⟩ := h
  exact ⟨vs, own_mono h1 hb.size, h2.imp fun _ _ h => h.mono hb.size, hb.trans (h3.mono hb.size)⟩
theorem MCol.start {w0 w : World} (hb : Below w0.heap.size w0 w) : MCol w0 w (.slice none 0 0) [] := (MCol.nil w0).step hb |> fun h => h

/-- what a walk takes of it -/
theorem MCol.open {w0 w : World} {v : Value} {xss : List (List Int)} (h : MCol w0 w v xss) :
    ∃ a cap, v = .slice a xss.length cap ∧ xss.length ≤ cap ∧ cap ≤ maxLen ∧
      (∀ k, k < xss.length → ∃ b r, a = some ⟨b, 0, none⟩ ∧ b < w.heap.size ∧ w.cell? ⟨b, k, none⟩ = some r ∧ OwnRow w0.heap.size w r (xss.getD k [])) := by
  obtain ⟨vs, ⟨h0, h1⟩, h2, h3⟩ := h
  have hl := h2.len
  rcases h1 with ⟨rfl, h1⟩ | ⟨g, cap, cur, rfl, hb, hg, hn, hm, hc, ht⟩
  · refine ⟨none, 0, by rw [← hl, h1], by omega, by simp [maxLen], fun k hk => by omega⟩
  · refine ⟨some ⟨g, 0, none⟩, cap, by rw [hl], by omega, hm, fun k hk => ?_⟩
    obtain ⟨r, h4, h5⟩ := h2.at k hk
    refine ⟨g, r, rfl, heap_lt hg, ?_, h5⟩
    rw [cell_of_row _ _ _ _ _ _ hg, ← h4]
    have hk' : k < vs.length := by omega
    have e : cur.toList[k]? = vs[k]? := by
      conv => rhs; rw [← ht]
      rw [List.getElem?_take, if_pos (by omega)]
    simpa using e

theorem MCol.cells {w0 w : World} {v : Value} {xss : List (List Int)} (h : MCol w0 w v xss) : ∀ r, v.ownBlock = some r → ∃ cs fr, w.heap[r]? = some (.cells cs 51 fr) := by
  obtain ⟨vs, ⟨h0, h1⟩, h2, h3⟩ := h
  intro r hr
  rcases h1 with ⟨rfl, h1⟩ | ⟨g, cap, cur, rfl, hb, hg, hn, hm, hc, ht⟩
  · cases hr
  · cases hr; exact ⟨_, _, hg⟩
/-- 'out = append(out, row)' of a slice of rows -/
theorem append_row {ops : Array Oper} {rest : List Oper} {o : Oper} {a : Act} {w0 w : World} {Q : Exit → Act → World → Prop} (hgd : o.guard = none) (s x : Operand)
    (ho : o.op = .call { callee := .builtin .append, args := #[s, x], argTypes := #[44, 44] }) {v r : Value} {xss : List (List Int)} {ys : List Int} (hc : MCol w0 w v xss) (hrow : OwnRow w0.heap.size w r ys) (hs : a.eval s = v)
    (hx : a.eval x = .slice (some ⟨w.heap.size, 0, none⟩) 1 1) (hlen : xss.length ≤ 1000000000)
    (h : ∀ v' w', MCol w0 w' v' (xss ++ [ys]) → v' ≠ .slice none 0 0 → wpList Try.prog ops Q rest (a.put o.dst v') w') : wpList Try.prog ops Q (o :: rest) a (w.alloc (.cells #[r] 51)) := by
  obtain ⟨i0, hi, hz0, hz1, hz2⟩ := info_parts infoInts
  have hb1 : Below w.heap.size w (w.alloc (.cells #[r] 51)) := (Below.refl _ _).alloc (Nat.le_refl _) _
  have hc1 := hc.step hb1
  have hr1 := hrow.below hb1
  have hc2 := hc1
  obtain ⟨vs, g1, g2, g3⟩ := hc2
  have hl := g2.len
  refine wpList_append_own _ hgd s x 44 ho w0.heap.size 51 i0 (.slice none 0 0) 1 24 Try.underlying44 hi hz0 hz1 hz2 rfl (by decide) v vs.length vs hs g1 ⟨w.heap.size, 0, none⟩ 1 1 [r] hx rfl (cell_one_new _ _ _) (by intro u hu; simp only [List.mem_singleton] at hu; subst hu; exact hrow.one) (by simp only [maxLen]; omega) (by omega) g3.size ?_
  intro v' w' hown' hgrow hnil
  refine h v' w' ?_ (fun e => by simpa using (hnil.1 e).2)
  have hcl := hc1.cells
  exact ⟨vs ++ [r], by simpa using hown', RowsAre.snoc (hr1.grown hgrow hcl) (g2.imp fun _ _ h => h.grown hgrow hcl), g3.grown hgrow g3.size (fun k e => (World.ownsRow.lt g1 k e).1)⟩
end Go.Proofs.Ytfjbggodniemeaa
