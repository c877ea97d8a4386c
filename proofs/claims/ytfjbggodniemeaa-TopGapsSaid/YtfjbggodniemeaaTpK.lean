/- tread: counting: what is computed; laws for the walk. -/
import Derived.Test.YtfjbggodniemeaaTpS
import Derived.Test.YtfjbggodniemeaaTpR
import Derived.Test.YtfjbggodniemeaaMarks
set_option linter.unusedVariables false
set_option linter.unusedSimpArgs false
namespace Go.Proofs.Ytfjbggodniemeaa
open Go.RowKit

/-! ### laws -/
theorem append_TIn {F : Fence} {n : Nat} {sl e : TypeId} {z : Value} {by8 : Nat} (E : ElemOK sl e z by8) {ops : Array Oper} {rest : List Oper} {o : Oper} {a : Act} {w : World} {Q : Exit → Act → World → Prop} (hgd : o.guard = none) (s x : Operand)
    (ho : o.op = .call { callee := .builtin .append, args := #[s, x], argTypes := #[sl, sl] }) {base : Nat} {v : Value} {xs : List Value} (hown : w.ownsRow base e 1 v xs.length xs) (hB : base ≤ w.heap.size) (hs : a.eval s = v)
    (y : Value) (hy : y.oneCell' = true) (hx : a.eval x = .slice (some ⟨w.heap.size, 0, none⟩) 1 1) (hlen : xs.length ≤ 1000000000)
    (h : ∀ v' w', w'.ownsRow base e 1 v' (xs.length + 1) (xs ++ [y]) → Below base w w' → OnlyT e w w' → v' ≠ .slice none 0 0 → wpListIn F n Try.prog ops Q rest (a.put o.dst v') w') : wpListIn F n Try.prog ops Q (o :: rest) a (w.alloc (.cells #[y] e)) := by
  obtain ⟨i0, hi, hz0, hz1, hz2⟩ := info_parts E.info
  refine wpListIn_append_own _ hgd s x sl ho base e i0 z 1 by8 E.under hi hz0 hz1 hz2 E.zs (by decide) v xs.length xs hs (hown.alloc _) ⟨w.heap.size, 0, none⟩ 1 1 [y] hx rfl (cell_one_new _ _ _) (by intro u hu; simp only [List.mem_singleton] at hu; subst hu; exact hy) (by simp only [maxLen]; omega) (Nat.le_trans (Nat.mul_le_mul_left _ E.small) (by omega)) (by simp; omega) ?_
  intro v' w' hown' hgrow hnil
  refine h v' w' hown' ?_ ?_ (fun e => by simpa using (hnil.1 e).2)
  · refine ((Below.refl base w).alloc hB _).grown hgrow (by simp; omega) ?_
    intro k hk
    exact (World.ownsRow.lt (hown.alloc (.cells #[y] e)) k hk.symm.symm).1
  · intro g o' hg hno
    refine (hgrow.block g (by have := heap_lt hg; simp; omega) (fun he => ?_)).trans (alloc_old hg)
    obtain ⟨cs, h2⟩ := own_type hown g he.symm
    rw [hg] at h2
    exact hno cs (0, 0) (Option.some.inj h2)
theorem make_fullIn {F : Fence} {n : Nat} (w : World) {ops : Array Oper} {rest : List Oper} {o : Oper} {a : Act} {Q : Exit → Act → World → Prop} {sl e : TypeId} {z : Value} {by8 : Nat} (E : ElemOK sl e z by8) (hz : z.cells = #[z])
    (hg : o.guard = none) (l c : Operand) (hop : o.op = Op.makeSlice sl l c) (m : Nat) (hl : a.eval l = .int .i64 m) (hc : a.eval c = .int .i64 m) (hm : m ≤ 1000000)
    (hK : ∀ w', w'.heap[w.heap.size]? = some (.cells (List.replicate m z).toArray e (0, 0)) → Below w.heap.size w w' → wpListIn F n Try.prog ops Q rest (a.put o.dst (.slice (some ⟨w.heap.size, 0, none⟩) m m)) w') :
    wpListIn F n Try.prog ops Q (o :: rest) a w := by
  refine wpListIn_plain hg fun K hK' => ?_
  obtain ⟨i0, hi, hz0, hz1, hz2⟩ := info_parts E.info
  obtain ⟨w', hrun, r1, r2⟩ := run_make_full (P := Try.prog) w w.heap.size sl e i0 z 1 E.under hi hz0 hz1 .i64 .i64 m (by rw [hz2]; exact Nat.le_trans (Nat.mul_le_mul E.small hm) (by omega)) (by simp only [maxLen]; omega) (Nat.le_refl _)
  obtain ⟨h1, h2⟩ := made_block hz r1 r2
  unfold Oper.wpIn
  refine ⟨?_, ?_⟩
  · simp [Oper.about, hop]
  · rw [Oper.semAt_plain F _ _ (by rw [hop]; intro c hc'; cases hc')]
    simp [execOp, hop, hl, hc, hrun, Result.andThen]
    exact hK' _ _ (hK w' h1 h2)
theorem given_B {α : Type} {n gf : Nat} {P : Program} {lb : Array Value} {encs : α → Array Value} {Kp : World → World → Prop} {S Sp : List α → Prop} {Px : List α → α → World → Prop} {w : World} (h : Given n P gf lb encs Kp S Sp Px w) : GivenB n P gf lb encs Kp S Sp Px w :=
  fun l J Jx W h1 h2 h3 h4 _ h6 h7 => h l J Jx W h1 h2 h3 h4 h6 h7

/-! ### the machine, read -/
structure MRd (w : World) (P T : Nat) (rows : List (List Int)) : Prop where
  sta : ∃ a cap, w.cell? ⟨P, 1, none⟩ = some (.slice a T cap)
  nxt : ∃ g cap, w.cell? ⟨P, 2, none⟩ = some (.slice (some ⟨g, 0, none⟩) T cap) ∧ ∀ i, i < T → ∃ rv, w.cell? ⟨g, i, none⟩ = some rv ∧ Reads w rv (rows.getD i [])
theorem MRd.below {w w' : World} {P T : Nat} {rows : List (List Int)} (h : MRd w P T rows) (hb : Below w.heap.size w w') : MRd w' P T rows := by
  obtain ⟨⟨a, cap, h1⟩, g, cap2, h2, h3⟩ := h
  refine ⟨⟨a, cap, (hb.cell (p := ⟨P, 1, none⟩) (World.block_lt_of_cell? _ _ h1)).trans h1⟩, g, cap2, (hb.cell (p := ⟨P, 2, none⟩) (World.block_lt_of_cell? _ _ h2)).trans h2, fun i hi => ?_⟩
  obtain ⟨rv, h4, h5⟩ := h3 i hi
  exact ⟨rv, (hb.cell (p := ⟨g, i, none⟩) (World.block_lt_of_cell? _ _ h4)).trans h4, h5.below hb⟩
theorem MRd.of {w0 w : World} {sval nval : Value} {st : List (List UInt8)} {rows : List (List Int)} (h : MS w0 w sval nval st) (hn : NR w0.heap.size w nval rows) (hl : rows.length = st.length) (h0 : 0 < rows.length) : MRd w (w0.heap.size + 1) st.length rows := by
  obtain ⟨a, cap, hs⟩ := slice_form h.s
  obtain ⟨vs, hv1, hv2⟩ := hn
  have hvl := hv2.len
  refine ⟨⟨a, cap, ?_⟩, ?_⟩
  · rw [cell_of h.m (j := 1) rfl]
    rw [hs, List.length_map]; rfl
  · obtain ⟨_, h1 | ⟨g, cap2, cur, h1, h2, h3, h4, h5, h6, h7⟩⟩ := id hv1
    · have := h1.2; omega
    · refine ⟨g, cap2, ?_, fun i hi => ?_⟩
      · rw [cell_of h.m (j := 2) rfl]
        rw [h1, hvl, hl]; rfl
      · obtain ⟨rv, h8, h9⟩ := hv2.at i (by omega)
        refine ⟨rv, ?_, h9.reads⟩
        subst h1
        rw [hv1.cellAt i (by omega)]
        simpa using h8

/-! ### what is computed -/
def mostP : Int := 1152921504606846977
def cntRow (prev : List Int) (ss : List (Nat × Int)) : Int := ss.foldl (fun a x => if a + gi prev x.2.toNat < 1152921504606846977 then a + gi prev x.2.toNat else 1152921504606846977) 0
def cntNext (rows : List (List Int)) (prev : List Int) : List Int := rows.map fun row => cntRow prev (stepsL row)
def cntTo (rows : List (List Int)) : Nat → List Int
  | 0 => List.replicate rows.length 1
  | k + 1 => cntNext rows (cntTo rows k)
def cntsTo (rows : List (List Int)) (k : Nat) : List (List Int) := (List.range k).map (cntTo rows)
def nowTo (rows : List (List Int)) (prev : List Int) (i : Nat) : List Int := ((rows.take i).map fun row => cntRow prev (stepsL row)) ++ List.replicate (rows.length - i) 0
theorem cntRow_snoc (prev : List Int) (ss : List (Nat × Int)) (x : Nat × Int) : cntRow prev (ss ++ [x]) = if cntRow prev ss + gi prev x.2.toNat < 1152921504606846977 then cntRow prev ss + gi prev x.2.toNat else 1152921504606846977 := by
  unfold cntRow; rw [List.foldl_append]; rfl
theorem cntRow_bound {prev : List Int} (h : ∀ j, 0 ≤ gi prev j ∧ gi prev j ≤ 1152921504606846977) (ss : List (Nat × Int)) : 0 ≤ cntRow prev ss ∧ cntRow prev ss ≤ 1152921504606846977 := by
  suffices H : ∀ (ss : List (Nat × Int)) (a : Int), 0 ≤ a → a ≤ 1152921504606846977 → 0 ≤ ss.foldl (fun a x => if a + gi prev x.2.toNat < 1152921504606846977 then a + gi prev x.2.toNat else 1152921504606846977) a ∧ ss.foldl (fun a x => if a + gi prev x.2.toNat < 1152921504606846977 then a + gi prev x.2.toNat else 1152921504606846977) a ≤ 1152921504606846977 from H ss 0 (Int.le_refl _) (by decide)
  intro ss
  induction ss with
  | nil => intro a h1 h2; exact ⟨h1, h2⟩
  | cons x ss ih =>
    intro a h1 h2
    have := h x.2.toNat
    rw [List.foldl_cons]
    refine ih _ ?_ ?_ <;> split <;> omega
theorem gi_map {α : Type} (f : α → Int) (l : List α) (j : Nat) : (∃ x, gi (l.map f) j = f x) ∨ gi (l.map f) j = 0 := by
  unfold gi
  rw [List.getD_eq_getElem?_getD, List.getElem?_map]
  rcases l[j]? with _ | x
  · exact .inr rfl
  · exact .inl ⟨x, rfl⟩
theorem cntTo_bound (rows : List (List Int)) : ∀ k j, 0 ≤ gi (cntTo rows k) j ∧ gi (cntTo rows k) j ≤ 1152921504606846977
  | 0, j => by
    unfold cntTo gi
    rw [List.getD_eq_getElem?_getD, List.getElem?_replicate]
    split <;> simp
  | k + 1, j => by
    unfold cntTo cntNext
    rcases gi_map (fun row => cntRow (cntTo rows k) (stepsL row)) rows j with ⟨x, e⟩ | e
    · rw [e]; exact cntRow_bound (cntTo_bound rows k) _
    · rw [e]; exact ⟨Int.le_refl _, by decide⟩
theorem cntTo_len (rows : List (List Int)) : ∀ k, (cntTo rows k).length = rows.length
  | 0 => by simp [cntTo]
  | k + 1 => by simp [cntTo, cntNext]
theorem cntsTo_next (rows : List (List Int)) (k : Nat) : cntsTo rows (k + 1) = cntsTo rows k ++ [cntTo rows k] := by
  unfold cntsTo; rw [List.range_succ, List.map_append]; rfl
theorem cntsTo_len (rows : List (List Int)) (k : Nat) : (cntsTo rows k).length = k := by simp [cntsTo]
theorem cntsTo_get {rows : List (List Int)} {m k : Nat} (h : k < m) : (cntsTo rows m).getD k [] = cntTo rows k := by
  unfold cntsTo; simp [h]
theorem nowTo_len {rows : List (List Int)} {prev : List Int} {i : Nat} (h : i ≤ rows.length) : (nowTo rows prev i).length = rows.length := by
  unfold nowTo; simp; omega
theorem nowTo_zero (rows : List (List Int)) (prev : List Int) : nowTo rows prev 0 = List.replicate rows.length 0 := by simp [nowTo]
theorem nowTo_done (rows : List (List Int)) (prev : List Int) : nowTo rows prev rows.length = cntNext rows prev := by simp [nowTo, cntNext]
theorem nowTo_next {rows : List (List Int)} {prev : List Int} {i : Nat} (h : i < rows.length) : (nowTo rows prev i).set i (cntRow prev (stepsL (rows.getD i []))) = nowTo rows prev (i + 1) := by
  have e : rows.getD i [] = rows[i] := by simp [h]
  unfold nowTo
  have hl : ((rows.take i).map fun row => cntRow prev (stepsL row)).length = i := by simp; omega
  rw [List.set_append, if_neg (by rw [hl]; omega), hl, Nat.sub_self, e, List.take_succ_eq_append_getElem h, List.map_append, List.append_assoc]
  congr 1
  obtain ⟨m, hm⟩ : ∃ m, rows.length - i = m + 1 := ⟨rows.length - i - 1, by omega⟩
  rw [hm, show rows.length - (i + 1) = m by omega, List.replicate_succ, List.set_cons_zero]
  rfl
theorem nowTo_at {rows : List (List Int)} {prev : List Int} {i : Nat} (h : i < rows.length) : (nowTo rows prev i).set i 0 = nowTo rows prev i := by
  unfold nowTo
  have hl : ((rows.take i).map fun row => cntRow prev (stepsL row)).length = i := by simp; omega
  rw [List.set_append, if_neg (by rw [hl]; omega), hl, Nat.sub_self]
  congr 1
  obtain ⟨m, hm⟩ : ∃ m, rows.length - i = m + 1 := ⟨rows.length - i - 1, by omega⟩
  rw [hm, List.replicate_succ, List.set_cons_zero]
def rows1 : List (List Int) := (machTo ss1 15).2
def rowsFine (rows : List (List Int)) : Bool := rows.all fun r => decide (r.length = 2) && (stepsL r).all fun x => decide (x.1 < 2) && decide (0 ≤ x.2) && decide (x.2.toNat < rows.length)
theorem rows1_fine : rowsFine rows1 = true := by decide +kernel
theorem rows1_len : rows1.length = 15 := mach_rows ss1 15
end Go.Proofs.Ytfjbggodniemeaa
