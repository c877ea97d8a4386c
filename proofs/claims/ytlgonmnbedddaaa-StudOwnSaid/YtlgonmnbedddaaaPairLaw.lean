/- Pairs of columns and their steps: plain lists. -/
import Derived.Test.YtlgonmnbedddaaaClear
set_option linter.unusedVariables false
set_option linter.unusedSimpArgs false
namespace Go.Proofs.Ytlgonmnbedddaaa

theorem mem_rowN {n i m : Nat} {p : Nat × Nat} : p ∈ rowN n i m ↔ p.1 = i ∧ i < p.2 ∧ p.2 < i + 1 + m := by
  simp only [rowN, List.mem_map, List.mem_range]
  constructor
  · rintro ⟨k, hk, rfl⟩; exact ⟨rfl, by simp only; omega, by simp only; omega⟩
  · rintro ⟨h1, h2, h3⟩
    exact ⟨p.2 - (i + 1), by omega, Prod.ext h1.symm (by simp only; omega)⟩
theorem mem_uptoN {n k : Nat} (hk : k ≤ n) {p : Nat × Nat} : p ∈ uptoN n k ↔ p.1 < k ∧ p.1 < p.2 ∧ p.2 < n := by
  simp only [uptoN, List.mem_flatMap, List.mem_range, mem_rowN]
  constructor
  · rintro ⟨i, hi, h1, h2, h3⟩; omega
  · rintro ⟨h1, h2, h3⟩; exact ⟨p.1, h1, rfl, h2, by omega⟩
theorem mem_pairsN {n : Nat} {p : Nat × Nat} : p ∈ pairsN n ↔ p.1 < p.2 ∧ p.2 < n := by
  unfold pairsN; rw [mem_uptoN (Nat.le_refl _)]
  constructor
  · rintro ⟨_, h⟩; exact h
  · rintro ⟨h1, h2⟩; exact ⟨by omega, h1, h2⟩
theorem uptoN_sub {n m : Nat} (h : n ≤ m) : ∀ i, (uptoN n i).Sublist (uptoN m i)
  | 0 => List.Sublist.refl _
  | i + 1 => by
    rw [uptoN_succ, uptoN_succ]
    refine List.Sublist.append (uptoN_sub h i) ?_
    have := rowN_le n i (m - 1 - i - (n - 1 - i)) (n - 1 - i)
    rw [show n - 1 - i + (m - 1 - i - (n - 1 - i)) = m - 1 - i by omega] at this
    exact this.sublist
theorem pairsN_sub {n m : Nat} (h : n ≤ m) : (pairsN n).Sublist (pairsN m) := by
  refine (uptoN_sub h n).trans ?_
  have := uptoN_le m (m - n) n
  rw [show n + (m - n) = m by omega] at this
  exact this.sublist
theorem pairsN_nodup (n : Nat) : (pairsN n).Nodup := by
  have H : ∀ k, k ≤ n → (uptoN n k).Nodup := by
    intro k
    induction k with
    | zero => intro _; simp [uptoN]
    | succ k ih =>
      intro hk
      rw [uptoN_succ, List.nodup_append]
      refine ⟨ih (by omega), ?_, fun a ha b hb e => ?_⟩
      · unfold rowN
        rw [List.nodup_iff_pairwise_ne, List.pairwise_map]
        refine List.Pairwise.imp ?_ List.pairwise_lt_range
        intro a b hab e
        simp at e; omega
      · subst e
        have h1 := (mem_uptoN (by omega)).1 ha
        have h2 := mem_rowN.1 hb
        omega
  exact H n (Nat.le_refl _)
theorem pairwise_of_inj {α β : Type} {f : α → β} {l : List α} (h : (l.map f).Nodup) : ∀ a ∈ l, ∀ b ∈ l, f a = f b → a = b := by
  induction l with
  | nil => intro a ha; cases ha
  | cons x l ih =>
    rw [List.map_cons, List.nodup_cons] at h
    intro a ha b hb hab
    rcases List.mem_cons.1 ha with ea | ha2
    · rcases List.mem_cons.1 hb with eb | hb2
      · rw [ea, eb]
      · exact absurd (List.mem_map.2 ⟨b, hb2, by rw [← hab, ea]⟩) h.1
    · rcases List.mem_cons.1 hb with eb | hb2
      · exact absurd (List.mem_map.2 ⟨a, ha2, by rw [hab, eb]⟩) h.1
      · exact ih h.2 a ha2 b hb2 hab
theorem inj_nodup {α β : Type} {f : α → β} {l : List α} (hl : l.Nodup) (h : ∀ a ∈ l, ∀ b ∈ l, f a = f b → a = b) : (l.map f).Nodup := by
  induction l with
  | nil => simp
  | cons x l ih =>
    rw [List.map_cons, List.nodup_cons]
    rw [List.nodup_cons] at hl
    refine ⟨fun hm => ?_, ih hl.2 fun a ha b hb => h a (List.mem_cons_of_mem _ ha) b (List.mem_cons_of_mem _ hb)⟩
    obtain ⟨a, ha, e⟩ := List.mem_map.1 hm
    have := h a (List.mem_cons_of_mem _ ha) x List.mem_cons_self e
    subst this; exact hl.1 ha
/-- clear: no two pairs of columns have the same step -/
theorem clearB_iff {xs : List Int} : clearB xs = true ↔ ∀ i d k, 0 < d → i < k → k + d < xs.length → gi xs (i + d) - gi xs i ≠ gi xs (k + d) - gi xs k := by
  unfold clearB stepsOf
  rw [decide_eq_true_eq]
  constructor
  · intro h i d k hd hik hk e
    have := pairwise_of_inj h (i, i + d) (mem_pairsN.2 ⟨by simp only; omega, by simp only; omega⟩) (k, k + d) (mem_pairsN.2 ⟨by simp only; omega, by simp only; omega⟩) (by simp only [stepOf, e]; rw [Prod.mk.injEq]; exact ⟨by omega, rfl⟩)
    simp at this; omega
  · intro h
    refine inj_nodup (pairsN_nodup _) ?_
    rintro ⟨i, j⟩ hp ⟨k, l⟩ hq e
    rw [mem_pairsN] at hp hq
    simp only [stepOf, Prod.mk.injEq] at e hp hq
    obtain ⟨e1, e2⟩ := e
    obtain ⟨d, rfl⟩ : ∃ d, j = i + d := ⟨j - i, by omega⟩
    obtain rfl : l = k + d := by omega
    by_cases hik : i = k
    · subst hik; rfl
    · exfalso
      rcases Nat.lt_or_gt_of_ne hik with h1 | h1
      · exact h i d k (by omega) h1 hq.2 e2
      · exact h k d i (by omega) h1 hp.2 e2.symm
theorem gi_prefix {a b : List Int} (h : a <+: b) {i : Nat} (hi : i < a.length) : gi a i = gi b i := by
  obtain ⟨t, rfl⟩ := h
  simp [gi, List.getElem?_append_left hi]
theorem clearB_prefix {a b : List Int} (h : a <+: b) (hb : clearB b = true) : clearB a = true := by
  rw [clearB_iff] at hb ⊢
  intro i d k hd hik hk
  have hl := h.length_le
  rw [gi_prefix h (by omega), gi_prefix h (by omega), gi_prefix h hk, gi_prefix h (by omega)]
  exact hb i d k hd hik (by omega)
theorem clash_iff {xs : List Int} {i d k : Nat} {q : Nat × Nat} : clash xs (i, i + d) q = true ↔ i < q.1 ∧ q.2 = q.1 + d ∧ gi xs (i + d) - gi xs i = gi xs q.2 - gi xs q.1 := by
  simp only [clash, Bool.and_eq_true, decide_eq_true_eq, stepOf, Prod.mk.injEq]
  constructor
  · rintro ⟨h1, h2, h3⟩; exact ⟨h1, by omega, h3⟩
  · rintro ⟨h1, h2, h3⟩; exact ⟨h1, by omega, h3⟩
/-- no pair behind (i, i + d) has its step -/
def Free (xs : List Int) (i d m : Nat) : Prop := ∀ k, i < k → k < m → k + d < xs.length → gi xs (i + d) - gi xs i ≠ gi xs (k + d) - gi xs k
theorem firstIn_free {xs : List Int} {i d : Nat} (h : Free xs i d xs.length) (hd : 0 < d) : firstIn xs (pairsN xs.length) (i, i + d) = none := by
  refine firstIn_none fun r hr => ?_
  rw [mem_pairsN] at hr
  rw [← Bool.not_eq_true, clash_iff (k := 0)]
  rintro ⟨h1, h2, h3⟩
  rw [h2] at h3 hr
  exact h r.1 h1 (by omega) (by omega) h3
theorem firstIn_at {xs : List Int} {i d k : Nat} (h : Free xs i d k) (hd : 0 < d) (hik : i < k) (hk : k + d < xs.length) (he : gi xs (i + d) - gi xs i = gi xs (k + d) - gi xs k) : firstIn xs (pairsN xs.length) (i, i + d) = some (k, k + d) := by
  have hp := pairs_prefix (n := xs.length) (k := k) (m := d - 1) (by omega) (by omega)
  rw [show k + 1 + (d - 1) = k + d by omega] at hp
  refine firstIn_some hp (fun r hr => ?_) ((clash_iff (k := 0)).2 ⟨hik, rfl, he⟩)
  rw [← Bool.not_eq_true, clash_iff (k := 0)]
  rintro ⟨h1, h2, h3⟩
  rcases List.mem_append.1 hr with hr | hr
  · rw [mem_uptoN (by omega)] at hr
    rw [h2] at h3 hr
    exact h r.1 h1 hr.1 hr.2.2 h3
  · rw [mem_rowN] at hr; omega
theorem firstClash_iff {xs : List Int} : firstClash xs = none ↔ clearB xs = true := by
  rw [clearB_iff]
  constructor
  · intro h i d k hd hik hk e
    unfold firstClash at h
    rw [List.findSome?_eq_none_iff] at h
    have := h (i, i + d) (mem_pairsN.2 ⟨by simp only; omega, by simp only; omega⟩)
    rw [Option.map_eq_none_iff] at this
    unfold firstIn at this
    rw [List.find?_eq_none] at this
    exact this (k, k + d) (mem_pairsN.2 ⟨by simp only; omega, hk⟩) ((clash_iff (k := 0)).2 ⟨hik, rfl, e⟩)
  · intro h
    refine firstClash_none fun r hr => ?_
    obtain ⟨i, j⟩ := r
    rw [mem_pairsN] at hr
    simp only at hr
    obtain ⟨d, rfl⟩ : ∃ d, j = i + d := ⟨j - i, by omega⟩
    exact firstIn_free (fun k h1 h2 h3 => h i d k (by omega) h1 h3) (by omega)
end Go.Proofs.Ytlgonmnbedddaaa
