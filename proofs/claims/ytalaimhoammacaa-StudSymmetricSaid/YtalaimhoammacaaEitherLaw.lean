/- Clear, Worst and Triangle: plain lists. -/
import Derived.Test.YtalaimhoammacaaWorst
import Derived.Test.YtalaimhoammacaaTri
import Derived.Test.YtalaimhoammacaaPairLaw
set_option linter.unusedVariables false
set_option linter.unusedSimpArgs false
namespace Go.Proofs.Ytalaimhoammacaa

/-! ### the greatest meeting -/
theorem rowW_spec (xs : List Int) (u : Int) (b : Int × Int × Int) : ∀ j : Nat, (∀ i : Nat, i < j → (meetN xs u ((i : Int) - xs.length) xs.length : Int) ≤ (rowW xs u b j).1) ∧ b.1 ≤ (rowW xs u b j).1 ∧
    (rowW xs u b j = b ∨ ∃ i : Nat, i < j ∧ rowW xs u b j = ((meetN xs u ((i : Int) - xs.length) xs.length : Int), u, (i : Int) - xs.length))
  | 0 => ⟨fun i h => by omega, Int.le_refl _, .inl rfl⟩
  | j + 1 => by
    obtain ⟨h1, h2, h3⟩ := rowW_spec xs u b j
    rw [rowW_succ]
    by_cases hc : (rowW xs u b j).1 < (meetN xs u ((j : Int) - xs.length) xs.length : Int)
    · rw [stepW_yes hc]
      refine ⟨fun i hi => ?_, by simp only; omega, .inr ⟨j, by omega, rfl⟩⟩
      by_cases e : i = j
      · subst e; exact Int.le_refl _
      · have := h1 i (by omega); simp only; omega
    · rw [stepW_no hc]
      refine ⟨fun i hi => ?_, h2, ?_⟩
      · by_cases e : i = j
        · subst e; omega
        · exact h1 i (by omega)
      · rcases h3 with h3 | ⟨i, h4, h5⟩
        · exact .inl h3
        · exact .inr ⟨i, by omega, h5⟩
theorem worstTo_spec (xs : List Int) : ∀ m, (∀ u i : Nat, 1 ≤ u → u ≤ m → i < 2 * xs.length + 1 → (meetN xs (u : Int) ((i : Int) - xs.length) xs.length : Int) ≤ (worstTo xs m).1) ∧ 0 ≤ (worstTo xs m).1 ∧
    (worstTo xs m = (0, 0, 0) ∨ ∃ u i : Nat, 1 ≤ u ∧ u ≤ m ∧ i < 2 * xs.length + 1 ∧ worstTo xs m = ((meetN xs (u : Int) ((i : Int) - xs.length) xs.length : Int), (u : Int), (i : Int) - xs.length))
  | 0 => ⟨fun u i h1 h2 => by omega, Int.le_refl _, .inl rfl⟩
  | m + 1 => by
    obtain ⟨h1, h2, h3⟩ := worstTo_spec xs m
    obtain ⟨g1, g2, g3⟩ := rowW_spec xs ((m : Int) + 1) (worstTo xs m) (2 * xs.length + 1)
    rw [worstTo_succ]
    refine ⟨fun u i hu hu2 hi => ?_, by omega, ?_⟩
    · by_cases e : u = m + 1
      · subst e; have := g1 i hi; push_cast; exact this
      · have := h1 u i hu (by omega) hi; omega
    · rcases g3 with g3 | ⟨i, hi, g4⟩
      · rw [g3]
        rcases h3 with h3 | ⟨u, i, a1, a2, a3, a4⟩
        · exact .inl h3
        · exact .inr ⟨u, i, a1, by omega, a3, a4⟩
      · exact .inr ⟨m + 1, i, by omega, by omega, hi, by push_cast; exact g4⟩

theorem countP_le_one {p : Nat → Bool} : ∀ n, (∀ i k, i < k → k < n → ¬ (p i = true ∧ p k = true)) → (List.range n).countP p ≤ 1
  | 0, _ => by simp
  | n + 1, h => by
    rw [List.range_succ, List.countP_append]
    have ih := countP_le_one n (fun i k hik hk => h i k hik (by omega))
    by_cases hp : p n = true
    · have h0 : (List.range n).countP p = 0 := by
        rw [List.countP_eq_zero]
        intro i hi
        rw [List.mem_range] at hi
        exact fun hpi => h i n hi (by omega) ⟨hpi, hp⟩
      rw [h0]; simp [List.countP_cons, hp]
    · simp [List.countP_cons, hp]; exact ih
theorem countP_pos' {p : Nat → Bool} {i n : Nat} (hi : i < n) (h : p i = true) : 1 ≤ (List.range n).countP p :=
  List.countP_pos_iff.2 ⟨i, List.mem_range.2 hi, h⟩
theorem countP_two {p : Nat → Bool} {i k : Nat} (hik : i < k) (h1 : p i = true) (h2 : p k = true) : ∀ n, k < n → 2 ≤ (List.range n).countP p
  | 0, h => by omega
  | n + 1, h => by
    rw [List.range_succ, List.countP_append]
    by_cases e : k = n
    · subst e
      have := countP_pos' hik h1
      have e1 : [k].countP p = 1 := by simp [List.countP_cons, h2]
      omega
    · have := countP_two hik h1 h2 n (by omega)
      omega
theorem hitB_iff {xs : List Int} {u d i : Nat} {v : Int} (hu : u = d) : hitB xs (u : Int) v i = true ↔ i + d < xs.length ∧ gi xs (i + d) - gi xs i = v := by
  subst hu
  unfold hitB
  rw [Bool.and_eq_true, decide_eq_true_eq, decide_eq_true_eq, show ((i : Int) + (u : Int)).toNat = i + u by omega]
  constructor
  · rintro ⟨h1, h2⟩; exact ⟨by omega, h2⟩
  · rintro ⟨h1, h2⟩; exact ⟨by omega, h2⟩
theorem clear_meet {xs : List Int} : clearB xs = true ↔ ∀ d : Nat, 1 ≤ d → d < xs.length → ∀ v : Int, meetN xs (d : Int) v xs.length ≤ 1 := by
  rw [clearB_iff]
  constructor
  · intro h d hd hdn v
    refine countP_le_one _ fun i k hik hk hp => ?_
    rw [hitB_iff rfl, hitB_iff rfl] at hp
    exact h i d k hd hik hp.2.1 (by rw [hp.1.2, hp.2.2])
  · intro h i d k hd hik hk e
    have := h d hd (by omega) (gi xs (i + d) - gi xs i)
    have h2 := countP_two (p := hitB xs (d : Int) (gi xs (i + d) - gi xs i)) hik ((hitB_iff rfl).2 ⟨by omega, rfl⟩) ((hitB_iff rfl).2 ⟨hk, e.symm⟩) xs.length (by omega)
    unfold meetN at this
    omega
/-- clear exactly if the greatest meeting is at most 1 -/
theorem clear_worst {xs : List Int} (ho : ordB xs = true) : (clearB xs = true) ↔ (worstL xs).1 ≤ 1 := by
  obtain ⟨hl1, hl2⟩ := ordB_len ho
  obtain ⟨h1, h2, h3⟩ := worstTo_spec xs (xs.length - 1)
  rw [clear_meet]
  unfold worstL
  constructor
  · intro h
    rcases h3 with h3 | ⟨u, i, a1, a2, a3, a4⟩
    · rw [h3]; simp
    · rw [a4]
      have := h u a1 (by omega) ((i : Int) - xs.length)
      simp only; omega
  · intro h d hd hdn v
    by_cases hv : -(xs.length : Int) ≤ v ∧ v ≤ xs.length
    · have := h1 d (v + xs.length).toNat hd (by omega) (by omega)
      rw [show (((v + xs.length).toNat : Nat) : Int) - xs.length = v by omega] at this
      omega
    · have := meetN_out (u := (d : Int)) (v := v) ho (by omega)
      omega
theorem worst_at {xs : List Int} : (worstL xs).1 = 0 ∨ (worstL xs).1 = (meetN xs (worstL xs).2.1 (worstL xs).2.2 xs.length : Int) := by
  obtain ⟨_, _, h3⟩ := worstTo_spec xs (xs.length - 1)
  unfold worstL
  rcases h3 with h3 | ⟨u, i, a1, a2, a3, a4⟩
  · left; rw [h3]
  · right; rw [a4]
theorem worst_rng {xs : List Int} : (worstL xs).2.1 = 0 ∧ (worstL xs).2.2 = 0 ∧ (worstL xs).1 = 0 ∨ (1 ≤ (worstL xs).2.1 ∧ (worstL xs).2.1 ≤ xs.length ∧ -(xs.length : Int) ≤ (worstL xs).2.2 ∧ (worstL xs).2.2 ≤ xs.length) := by
  obtain ⟨_, _, h3⟩ := worstTo_spec xs (xs.length - 1)
  unfold worstL
  rcases h3 with h3 | ⟨u, i, a1, a2, a3, a4⟩
  · left; rw [h3]; simp
  · right; rw [a4]; simp only; omega

/-! ### a number twice in a list of the triangle -/
def dupAt (xs : List Int) (d k j : Nat) : Bool := (List.range j).any fun i => decide (gi xs (d + i) - gi xs i = gi xs (d + k) - gi xs k)
def dupRow (xs : List Int) (d k : Nat) : Bool := (List.range k).any fun k => dupAt xs d k k
def dupTo (xs : List Int) (m : Nat) : Bool := (List.range m).any fun i => dupRow xs (i + 1) (xs.length - (i + 1))
theorem dupAt_succ (xs : List Int) (d k j : Nat) : dupAt xs d k (j + 1) = (dupAt xs d k j || decide (gi xs (d + j) - gi xs j = gi xs (d + k) - gi xs k)) := by simp [dupAt, List.range_succ]
theorem dupRow_succ (xs : List Int) (d k : Nat) : dupRow xs d (k + 1) = (dupRow xs d k || dupAt xs d k k) := by simp [dupRow, List.range_succ]
theorem dupTo_succ (xs : List Int) (m : Nat) : dupTo xs (m + 1) = (dupTo xs m || dupRow xs (m + 1) (xs.length - (m + 1))) := by simp [dupTo, List.range_succ]
theorem dup_clear {xs : List Int} : dupTo xs (xs.length - 1) = !(clearB xs) := by
  rw [Bool.eq_iff_iff, Bool.not_eq_true', ← Bool.not_eq_true, clearB_iff]
  simp only [dupTo, dupRow, dupAt, List.any_eq_true, List.mem_range, decide_eq_true_eq]
  constructor
  · rintro ⟨m, hm, k, hk, j, hj, e⟩ h
    refine h j (m + 1) k (by omega) hj (by omega) ?_
    rw [show j + (m + 1) = m + 1 + j by omega, show k + (m + 1) = m + 1 + k by omega]; exact e
  · intro h
    refine Classical.byContradiction fun hn => h fun i d k hd hik hk e => hn ⟨d - 1, by omega, k, by omega, i, hik, ?_⟩
    rw [show d - 1 + 1 = d by omega, show d + i = i + d by omega, show d + k = k + d by omega]; exact e

/-! ### the pairs of Clear -/
theorem clash_found {xs : List Int} {p q : Nat × Nat} (h : firstClash xs = some (p, q)) : p.1 < p.2 ∧ p.2 < xs.length ∧ p.1 < q.1 ∧ q.1 < q.2 ∧ q.2 < xs.length ∧ (p.2 : Int) - p.1 = (q.2 : Int) - q.1 ∧ gi xs p.2 - gi xs p.1 = gi xs q.2 - gi xs q.1 := by
  unfold firstClash at h
  obtain ⟨r, hr, h2⟩ := List.exists_of_findSome?_eq_some h
  rw [Option.map_eq_some_iff] at h2
  obtain ⟨s, h3, h4⟩ := h2
  cases h4
  unfold firstIn at h3
  have h5 := List.mem_of_find?_eq_some h3
  have h6 := List.find?_some h3
  rw [mem_pairsN] at hr h5
  simp only [clash, Bool.and_eq_true, decide_eq_true_eq, stepOf, Prod.mk.injEq] at h6
  exact ⟨hr.1, hr.2, h6.1, h5.1, h5.2, h6.2.1, h6.2.2⟩
end Go.Proofs.Ytalaimhoammacaa
