/- The first of an ascending list: Next, Complete and Item among the clear orders. -/
import Derived.Test.YtekmmcbfbapjmaaRCompl
set_option linter.unusedVariables false
set_option linter.unusedSimpArgs false
namespace Go.Proofs.Ytekmmcbfbapjmaa

theorem sorted_at {L : List (List Int)} (h : L.Pairwise (fun a b => ltB a b = true)) {i j : Nat} (hij : i < j) (hj : j < L.length) : ltB (L.getD i []) (L.getD j []) = true := by
  have := List.pairwise_iff_getElem.1 h i j (by omega) hj hij
  simpa [hj, show i < L.length by omega] using this
theorem first_le {L : List (List Int)} (h : L.Pairwise (fun a b => ltB a b = true)) {p : List Int → Bool} {y z : List Int} (hy : L.find? p = some y) (hz : z ∈ L) (hp : p z = true) : z = y ∨ ltB y z = true := by
  obtain ⟨h1, u, v, rfl, h2⟩ := List.find?_eq_some_iff_append.1 hy
  rcases List.mem_append.1 hz with hz | hz
  · have := h2 z hz; rw [hp] at this; simp at this
  · rcases List.mem_cons.1 hz with hz | hz
    · exact .inl hz
    · right
      rw [List.pairwise_append] at h
      exact (List.pairwise_cons.1 h.2.1).1 z hz
theorem find_some_of {L : List (List Int)} {p : List Int → Bool} {z : List Int} (hz : z ∈ L) (hp : p z = true) : ∃ y, L.find? p = some y := by
  rcases hf : L.find? p with _ | y
  · rw [List.find?_eq_none] at hf
    exact absurd hp (hf z hz)
  · exact ⟨y, rfl⟩
theorem all_sorted (n : Nat) : (allTo n n).Pairwise (fun a b => ltB a b = true) := by rw [all_clears]; exact clears_sorted n
theorem clear_ord {n : Nat} {m : List Int} (h : m ∈ allTo n n) (h1 : 1 ≤ n) (h16 : n ≤ 16) : ordB m = true := by
  obtain ⟨h2, h3, h4⟩ := allTo_rows n n m h
  rw [ordB_rows, h4, h2, decide_eq_true (by omega), decide_eq_true (by omega)]; rfl

/-! ### Item and Next -/
theorem row_mem {n k : Nat} (hk : k < (allTo n n).length) : (allTo n n).getD k [] ∈ allTo n n := by
  rw [List.getD_eq_getElem?_getD, List.getElem?_eq_getElem hk]; exact List.getElem_mem _
theorem next_row {n k : Nat} (hk : k < (allTo n n).length) : nextL ((allTo n n).getD k []) = (allTo n n)[k + 1]? := by
  have hl := (allTo_rows n n _ (row_mem hk)).2.2
  unfold nextL
  rw [hl, ← all_clears]
  have hs := all_sorted n
  have hno : ∀ j, j < k + 1 → ltB ((allTo n n).getD k []) ((allTo n n).getD j []) = false := fun j hj => by
    by_cases e : j = k
    · subst e; exact ltB_irrefl _
    · exact ltB_asymm (sorted_at hs (by omega) hk)
  by_cases h2 : k + 1 < (allTo n n).length
  · rw [find_at (p := fun m => ltB ((allTo n n).getD k []) m) h2 hno (sorted_at hs (by omega) h2)]
    simp [h2]
  · rw [List.getElem?_eq_none (by omega)]
    exact find_end (fun j hj => hno j (by omega))
/-! ### Complete of a beginning of Next -/
theorem complR_some {s y : List Int} {n : Nat} (h : complR s n = some y) : y ∈ allTo n n ∧ s <+: y := by
  unfold complR at h
  exact ⟨List.mem_of_find?_eq_some h, by simpa using List.find?_some h⟩
theorem nextL_some {o x : List Int} (h : nextL o = some x) : x ∈ allTo o.length o.length ∧ ltB o x = true := by
  unfold nextL at h
  rw [← all_clears] at h
  exact ⟨List.mem_of_find?_eq_some h, by simpa using List.find?_some h⟩
theorem between {o x : List Int} {k : Nat} (hx : nextL o = some x) : ∃ y, complR (x.take k) o.length = some y ∧ y.length = o.length ∧ ltB x y = false ∧
    (∀ same, same < o.length → o.take same = x.take same → gi o same ≠ gi x same → same < k → x = y) := by
  obtain ⟨h1, h2⟩ := nextL_some hx
  have hs := all_sorted o.length
  obtain ⟨y, hy⟩ := find_some_of (p := fun m => decide (x.take k <+: m)) h1 (by simpa using List.take_prefix _ _)
  have hy' : complR (x.take k) o.length = some y := hy
  obtain ⟨h3, h4⟩ := complR_some hy'
  have hlx := (allTo_rows _ _ _ h1).2.2
  have hly := (allTo_rows _ _ _ h3).2.2
  have h5 := first_le hs hy h1 (by simpa using List.take_prefix _ _)
  refine ⟨y, hy', hly, ?_, ?_⟩
  · rcases h5 with h5 | h5
    · rw [h5]; exact ltB_irrefl _
    · exact ltB_asymm h5
  · intro same hlt ht hne hk
    have h6 := ltB_at hlt (by omega) ht hne
    rw [h2] at h6
    have h7 : gi o same < gi x same := by simpa using h6.symm
    have e1 : y.take k = x.take k := by
      rw [List.prefix_iff_eq_take] at h4
      by_cases hk2 : k ≤ x.length
      · rw [List.length_take, Nat.min_eq_left hk2] at h4; exact h4.symm
      · rw [List.take_of_length_le (by omega : x.length ≤ k)] at h4 ⊢
        rw [hlx, ← hly, List.take_length] at h4
        rw [← h4, List.take_of_length_le (by omega)]
    have e2 : gi y same = gi x same := by rw [← gi_take hk, e1, gi_take hk]
    have e3 : y.take same = o.take same := by
      have := congrArg (List.take same) e1
      rw [List.take_take, List.take_take, Nat.min_eq_left (by omega)] at this
      rw [this, ht]
    have h8 : ltB o y = true := by
      rw [ltB_at hlt (by omega) e3.symm (by rw [e2]; exact hne), e2]; simpa using h7
    unfold nextL at hx
    rw [← all_clears] at hx
    rcases first_le hs hx h3 h8 with h9 | h9
    · exact h9.symm
    · rcases h5 with h5 | h5
      · exact h5
      · rw [ltB_asymm h5] at h9; cases h9

/-! ### Complete of its own beginnings -/
theorem compl_own {s x : List Int} {n k : Nat} (hx : complR s n = some x) (hk : s.length ≤ k) : complR (x.take k) n = some x := by
  obtain ⟨h1, h2⟩ := complR_some hx
  have hs := all_sorted n
  obtain ⟨y, hy⟩ := find_some_of (p := fun m => decide (x.take k <+: m)) h1 (by simpa using List.take_prefix _ _)
  have hy' : complR (x.take k) n = some y := hy
  obtain ⟨h3, h4⟩ := complR_some hy'
  have h5 := first_le hs hy h1 (by simpa using List.take_prefix _ _)
  have h6 : s <+: y := by
    refine List.IsPrefix.trans ?_ h4
    rw [List.prefix_iff_eq_take] at h2
    rw [h2, List.prefix_take_iff]
    refine ⟨List.take_prefix _ _, ?_⟩
    rw [← h2]; exact hk
  have h7 := first_le hs (p := fun m => decide (s <+: m)) hx h3 (by simpa using h6)
  rw [hy']
  rcases h5 with h5 | h5
  · rw [h5]
  · rcases h7 with h7 | h7
    · rw [h7]
    · rw [ltB_asymm h5] at h7; cases h7
theorem compl_none {o : List Int} {n k : Nat} (h : complR (o.take k) n = none) : complR o n = none := by
  unfold complR at h ⊢
  rw [List.find?_eq_none] at h ⊢
  intro m hm hp
  refine h m hm ?_
  simp only [decide_eq_true_eq] at hp ⊢
  exact (List.take_prefix _ _).trans hp
end Go.Proofs.Ytekmmcbfbapjmaa
