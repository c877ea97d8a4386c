/- StudSymmetric: plain lists. -/
import Derived.Test.YtalaimhoammacaaFstLaw
import Derived.Test.YtalaimhoammacaaEitherLaw
import Derived.Test.YtalaimhoammacaaMeetSum
import Derived.Test.YtalaimhoammacaaTwoLaw
set_option linter.unusedVariables false
set_option linter.unusedSimpArgs false
namespace Go.Proofs.Ytalaimhoammacaa

theorem nodup_sub_len {α : Type} [DecidableEq α] : ∀ (l m : List α), l.Nodup → (∀ x ∈ l, x ∈ m) → l.length ≤ m.length
  | [], m, _, _ => by simp
  | x :: t, m, hn, hs => by
    rw [List.nodup_cons] at hn
    have hx : x ∈ m := hs x (by simp)
    have h := nodup_sub_len t (m.erase x) hn.2 (fun y hy => by
      have hne : y ≠ x := fun e => hn.1 (e ▸ hy)
      exact (List.mem_erase_of_ne hne).2 (hs y (by simp [hy])))
    have h2 := List.length_erase_of_mem hx
    have h3 := List.length_pos_of_mem hx
    simp only [List.length_cons]; omega
theorem countP_inj {p q : Nat → Bool} {n : Nat} (f : Nat → Nat) (h1 : ∀ i, i < n → q i = true → f i < n ∧ p (f i) = true) (h2 : ∀ i j, i < n → j < n → f i = f j → i = j) : (List.range n).countP q ≤ (List.range n).countP p := by
  rw [List.countP_eq_length_filter, List.countP_eq_length_filter]
  have h3 : (((List.range n).filter q).map f).length = ((List.range n).filter q).length := by simp
  rw [← h3]
  refine nodup_sub_len _ _ ?_ ?_
  · rw [List.nodup_iff_pairwise_ne, List.pairwise_map]
    have hn : ((List.range n).filter q).Nodup := List.nodup_range.filter _
    rw [List.nodup_iff_pairwise_ne] at hn
    refine List.Pairwise.imp_of_mem ?_ hn
    intro a b ha hb hne he
    rw [List.mem_filter, List.mem_range] at ha hb
    exact hne (h2 a b ha.1 hb.1 he)
  · intro x hx
    obtain ⟨i, hi, rfl⟩ := List.mem_map.1 hx
    rw [List.mem_filter, List.mem_range] at hi
    obtain ⟨g1, g2⟩ := h1 i hi.1 hi.2
    rw [List.mem_filter, List.mem_range]
    exact ⟨g1, g2⟩

theorem hit_iff {xs : List Int} {u v : Int} {i : Nat} : hitB xs u v i = true ↔ ∃ j : Nat, (i : Int) + u = j ∧ j < xs.length ∧ gi xs j - gi xs i = v := by
  constructor
  · intro h
    by_cases hr : 0 ≤ (i : Int) + u ∧ (i : Int) + u < xs.length
    · obtain ⟨j, hj⟩ : ∃ j : Nat, (i : Int) + u = j := ⟨((i : Int) + u).toNat, by omega⟩
      rw [hit_at hj (by omega), decide_eq_true_eq] at h
      exact ⟨j, hj, by omega, h⟩
    · rw [hit_no1 hr] at h; cases h
  · rintro ⟨j, h1, h2, h3⟩
    rw [hit_at h1 h2]; exact decide_eq_true h3

theorem meet_rev (xs : List Int) (u v : Int) : meetN (revL xs) u v xs.length ≤ meetN xs (-u) v xs.length := by
  refine countP_inj (fun i => xs.length - 1 - i) (fun i hi h => ?_) (fun i j hi hj h => by omega)
  obtain ⟨j, h1, h2, h3⟩ := hit_iff.1 h
  rw [revL_len] at h2
  refine ⟨by omega, hit_iff.2 ⟨xs.length - 1 - j, by omega, by omega, ?_⟩⟩
  rw [gi_revL h2, gi_revL hi] at h3
  exact h3
theorem meet_mir (xs : List Int) (u v : Int) : meetN (mirL xs) u v xs.length ≤ meetN xs u (-v) xs.length := by
  refine countP_inj (fun i => i) (fun i hi h => ?_) (fun i j hi hj h => h)
  obtain ⟨j, h1, h2, h3⟩ := hit_iff.1 h
  rw [mirL_len] at h2
  refine ⟨hi, hit_iff.2 ⟨j, h1, h2, ?_⟩⟩
  rw [gi_mirL h2, gi_mirL hi] at h3
  omega
theorem meet_exc {xs : List Int} (ho : ordB xs = true) (u v : Int) : meetN (excL xs) u v xs.length ≤ meetN xs v u xs.length := by
  refine countP_inj (fun j => (gi (excL xs) j).toNat) (fun j hj h => ?_) (fun i j hi hj h => ?_)
  · obtain ⟨j2, h1, h2, h3⟩ := hit_iff.1 h
    rw [excL_len] at h2
    obtain ⟨i, e1, e2, e3⟩ := exc_at ho hj
    obtain ⟨i2, f1, f2, f3⟩ := exc_at ho h2
    rw [e1, f1] at h3
    simp only [e1, Int.toNat_natCast]
    exact ⟨e2, hit_iff.2 ⟨i2, by omega, f2, by rw [e3, f3]; omega⟩⟩
  · obtain ⟨a, e1, e2, e3⟩ := exc_at ho hi
    obtain ⟨b, f1, f2, f3⟩ := exc_at ho hj
    simp only [e1, f1, Int.toNat_natCast] at h
    subst h
    rw [e3] at f3
    omega

/-- every meeting but that with itself is at most the greatest -/
theorem worst_ge {xs : List Int} (ho : ordB xs = true) {u v : Int} (h : u ≠ 0 ∨ v ≠ 0) : (meetN xs u v xs.length : Int) ≤ (worstL xs).1 := by
  obtain ⟨h1, h2, _⟩ := worstTo_spec xs (xs.length - 1)
  have pos : ∀ u v : Int, 1 ≤ u → (meetN xs u v xs.length : Int) ≤ (worstL xs).1 := by
    intro u v hu
    by_cases hr : u ≤ -(xs.length : Int) ∨ (xs.length : Int) ≤ u ∨ v ≤ -(xs.length : Int) ∨ (xs.length : Int) ≤ v
    · rw [meetN_out ho hr]; exact h2
    · have := h1 u.toNat (v + xs.length).toNat (by omega) (by omega) (by omega)
      rw [show ((u.toNat : Nat) : Int) = u by omega, show (((v + xs.length).toNat : Nat) : Int) - xs.length = v by omega] at this
      exact this
  by_cases hu : 1 ≤ u
  · exact pos u v hu
  · by_cases hz : u = 0
    · subst hz
      have : meetN xs 0 v xs.length = 0 := by
        refine meetN_zero fun i hi => ?_
        rcases hh : hitB xs 0 v i with _ | _
        · rfl
        · obtain ⟨j, g1, g2, g3⟩ := hit_iff.1 hh
          obtain rfl : j = i := by omega
          omega
      rw [this]; exact h2
    · by_cases hl : u ≤ -(xs.length : Int)
      · rw [meetN_out ho (.inl hl)]; exact h2
      · rw [← meet_opp (by omega)]
        exact pos _ _ (by omega)
theorem worst_le {xs : List Int} {M : Int} (h0 : 0 ≤ M) (h : ∀ u v : Int, 1 ≤ u → (meetN xs u v xs.length : Int) ≤ M) : (worstL xs).1 ≤ M := by
  obtain ⟨_, _, h3⟩ := worstTo_spec xs (xs.length - 1)
  unfold worstL
  rcases h3 with h3 | ⟨u, i, a1, a2, a3, a4⟩
  · rw [h3]; exact h0
  · rw [a4]; exact h _ _ (by omega)
theorem worst_nonneg (xs : List Int) : 0 ≤ (worstL xs).1 := (worstTo_spec xs (xs.length - 1)).2.1
theorem worst_rev_le {xs : List Int} (ho : ordB xs = true) : (worstL (revL xs)).1 ≤ (worstL xs).1 := worst_le (worst_nonneg xs) fun u v hu => by
  rw [revL_len]
  have h1 := meet_rev xs u v
  have h2 := worst_ge ho (u := -u) (v := v) (.inl (by omega))
  omega
theorem worst_mir_le {xs : List Int} (ho : ordB xs = true) : (worstL (mirL xs)).1 ≤ (worstL xs).1 := worst_le (worst_nonneg xs) fun u v hu => by
  rw [mirL_len]
  have h1 := meet_mir xs u v
  have h2 := worst_ge ho (u := u) (v := -v) (.inl (by omega))
  omega
theorem worst_exc_le {xs : List Int} (ho : ordB xs = true) : (worstL (excL xs)).1 ≤ (worstL xs).1 := worst_le (worst_nonneg xs) fun u v hu => by
  rw [excL_len]
  have h1 := meet_exc ho u v
  have h2 := worst_ge ho (u := v) (v := u) (.inr (by omega))
  omega
theorem worst_turn_le {xs : List Int} (ho : ordB xs = true) {s : Nat} (hs : s < 8) : (worstL (turnL xs s)).1 ≤ (worstL xs).1 := by
  have e1 : s = 0 ∨ s = 1 ∨ s = 2 ∨ s = 3 ∨ s = 4 ∨ s = 5 ∨ s = 6 ∨ s = 7 := by omega
  have r := ordR ho
  have m := ordM ho
  rcases e1 with rfl | rfl | rfl | rfl | rfl | rfl | rfl | rfl
  · exact Int.le_refl _
  · exact worst_rev_le ho
  · exact worst_mir_le ho
  · exact Int.le_trans (worst_mir_le r) (worst_rev_le ho)
  · exact worst_exc_le ho
  · exact Int.le_trans (worst_exc_le r) (worst_rev_le ho)
  · exact Int.le_trans (worst_exc_le m) (worst_mir_le ho)
  · exact Int.le_trans (worst_exc_le (ordM r)) (Int.le_trans (worst_mir_le r) (worst_rev_le ho))
theorem worst_turn {xs : List Int} (ho : ordB xs = true) {s : Nat} (hs : s < 8) : (worstL (turnL xs s)).1 = (worstL xs).1 := by
  have h1 := worst_turn_le ho hs
  have h2 := worst_turn_le (turnL_ord ho s) (backS_lt s hs)
  rw [turn_back ho hs] at h2
  omega
theorem clear_turn {xs : List Int} (ho : ordB xs = true) {s : Nat} (hs : s < 8) : clearB (turnL xs s) = clearB xs := by
  rw [Bool.eq_iff_iff, clear_worst (turnL_ord ho s), clear_worst ho, worst_turn ho hs]

/-! ### First, and how many -/
theorem first_turn {xs : List Int} (ho : ordB xs = true) {s : Nat} (hs : s < 8) : firstL (turnL xs s) = firstL xs := by
  obtain ⟨j, h1, h2⟩ := first_in (turnL xs s)
  obtain ⟨k, h3, h4⟩ := first_in xs
  have h5 : ltB (firstL (turnL xs s)) (firstL xs) = false := by
    rw [h2, turn_two ho hs h1]; exact first_least xs (compS_lt s hs j h1)
  have h6 : ltB (firstL xs) (firstL (turnL xs s)) = false := by
    have e : firstL xs = turnL (turnL xs s) (compS (backS s) k) := by
      rw [← turn_two (turnL_ord ho s) (backS_lt s hs) h3, turn_back ho hs]; exact h4
    rw [e]; exact first_least _ (compS_lt _ (backS_lt s hs) k h3)
  rcases ltB_tri (a := firstL (turnL xs s)) (b := firstL xs) (by rw [firstL_len, firstL_len, turn_len]) with h | h | h
  · rw [h] at h5; cases h5
  · exact h
  · rw [h] at h6; cases h6
theorem dist_nodup (xs : List Int) : ∀ s, (distTo xs s).Nodup
  | 0 => by simp [distTo]
  | s + 1 => by
    unfold distTo
    split
    · exact dist_nodup xs s
    case isFalse h =>
      rw [List.nodup_append]
      refine ⟨dist_nodup xs s, by simp, fun a ha b hb => ?_⟩
      simp only [List.mem_singleton] at hb
      subst hb
      exact fun e => h (e ▸ ha)
theorem many_turn {xs : List Int} (ho : ordB xs = true) {s : Nat} (hs : s < 8) : (distTo (turnL xs s) 8).length = (distTo xs 8).length := by
  refine Nat.le_antisymm (nodup_sub_len _ _ (dist_nodup _ 8) fun ys h => ?_) (nodup_sub_len _ _ (dist_nodup _ 8) fun ys h => ?_)
  · obtain ⟨k, hk, rfl⟩ := (distTo_mem _ 8 _).1 h
    exact (distTo_mem _ 8 _).2 ⟨_, compS_lt s hs k hk, turn_two ho hs hk⟩
  · obtain ⟨k, hk, rfl⟩ := (distTo_mem _ 8 _).1 h
    refine (distTo_mem _ 8 _).2 ⟨compS (backS s) k, compS_lt _ (backS_lt s hs) k hk, ?_⟩
    rw [← turn_two (turnL_ord ho s) (backS_lt s hs) hk, turn_back ho hs]

/-- how many numbers below s have none before them that is like them -/
def cntTo (f : Nat → Nat → Bool) : Nat → Nat
  | 0 => 0
  | s + 1 => if (List.range s).any (fun k => f s k) = true then cntTo f s else cntTo f s + 1
theorem dist_cnt (xs : List Int) : ∀ s, (distTo xs s).length = cntTo (fun s k => decide (turnL xs s = turnL xs k)) s
  | 0 => rfl
  | s + 1 => by
    unfold distTo cntTo
    rw [← dist_cnt xs s]
    have he : (List.range s).any (fun k => decide (turnL xs s = turnL xs k)) = true ↔ turnL xs s ∈ distTo xs s := by
      rw [distTo_mem, List.any_eq_true]
      constructor
      · rintro ⟨k, h1, h2⟩; exact ⟨k, List.mem_range.1 h1, of_decide_eq_true h2⟩
      · rintro ⟨k, h1, h2⟩; exact ⟨k, List.mem_range.2 h1, decide_eq_true h2⟩
    by_cases h : turnL xs s ∈ distTo xs s
    · rw [if_pos h, if_pos (he.2 h)]
    · rw [if_neg h, if_neg (fun g => h (he.1 g))]; simp
theorem cnt_same {f g : Nat → Nat → Bool} : ∀ s, (∀ i k, i < s → k < i → f i k = g i k) → cntTo f s = cntTo g s
  | 0, _ => rfl
  | s + 1, h => by
    unfold cntTo
    rw [cnt_same s (fun i k hi hk => h i k (by omega) hk)]
    have : (List.range s).any (fun k => f s k) = (List.range s).any (fun k => g s k) := by
      rw [Bool.eq_iff_iff, List.any_eq_true, List.any_eq_true]
      constructor
      · rintro ⟨k, h1, h2⟩; exact ⟨k, h1, by rw [← h s k (by omega) (List.mem_range.1 h1)]; exact h2⟩
      · rintro ⟨k, h1, h2⟩; exact ⟨k, h1, by rw [h s k (by omega) (List.mem_range.1 h1)]; exact h2⟩
    rw [this]
/-- the symmetries that keep an order are a group among the eight -/
theorem groups : ∀ h0 h1 h2 h3 h4 h5 h6 h7 : Bool, h0 = true → (∀ s ∈ List.range 8, ∀ t ∈ List.range 8, [h0, h1, h2, h3, h4, h5, h6, h7].getD s false = true → [h0, h1, h2, h3, h4, h5, h6, h7].getD t false = true → [h0, h1, h2, h3, h4, h5, h6, h7].getD (compS s t) false = true) →
    8 % cntTo (fun s k => [h0, h1, h2, h3, h4, h5, h6, h7].getD (compS s (backS k)) false) 8 = 0 := by decide +kernel
theorem many_div {xs : List Int} (ho : ordB xs = true) : 8 % (distTo xs 8).length = 0 := by
  have hH : ∀ s, s < 8 → [decide (turnL xs 0 = xs), decide (turnL xs 1 = xs), decide (turnL xs 2 = xs), decide (turnL xs 3 = xs), decide (turnL xs 4 = xs), decide (turnL xs 5 = xs), decide (turnL xs 6 = xs), decide (turnL xs 7 = xs)].getD s false = decide (turnL xs s = xs) := by
    intro s hs
    have e1 : s = 0 ∨ s = 1 ∨ s = 2 ∨ s = 3 ∨ s = 4 ∨ s = 5 ∨ s = 6 ∨ s = 7 := by omega
    rcases e1 with rfl | rfl | rfl | rfl | rfl | rfl | rfl | rfl <;> rfl
  rw [dist_cnt, cnt_same 8 (g := fun s k => [decide (turnL xs 0 = xs), decide (turnL xs 1 = xs), decide (turnL xs 2 = xs), decide (turnL xs 3 = xs), decide (turnL xs 4 = xs), decide (turnL xs 5 = xs), decide (turnL xs 6 = xs), decide (turnL xs 7 = xs)].getD (compS s (backS k)) false) (fun i k hi hk => by
    rw [hH _ (compS_lt i hi _ (backS_lt k (by omega))), decide_eq_decide, ← turn_two ho hi (backS_lt k (by omega))]
    constructor
    · intro h; rw [h, turn_back ho (by omega)]
    · intro h
      have h2 := turn_back (turnL_ord ho i) (backS_lt k (by omega))
      have hb : backS (backS k) = k := by
        have e1 : k = 0 ∨ k = 1 ∨ k = 2 ∨ k = 3 ∨ k = 4 ∨ k = 5 ∨ k = 6 ∨ k = 7 := by omega
        rcases e1 with rfl | rfl | rfl | rfl | rfl | rfl | rfl | rfl <;> rfl
      rw [h, hb] at h2
      exact h2.symm)]
  refine groups _ _ _ _ _ _ _ _ (decide_eq_true rfl) ?_
  intro s hs t ht h1 h2
  rw [List.mem_range] at hs ht
  rw [hH _ hs, decide_eq_true_eq] at h1
  rw [hH _ ht, decide_eq_true_eq] at h2
  rw [hH _ (compS_lt s hs t ht), decide_eq_true_eq, ← turn_two ho hs ht, h1, h2]
end Go.Proofs.Ytalaimhoammacaa
