/- Plain law: the meetings for opposite shifts, and their sum. -/
import Derived.Test.YtalaimhoammacaaMeet
set_option linter.unusedVariables false
set_option linter.unusedSimpArgs false
namespace Go.Proofs.Ytalaimhoammacaa

theorem countP_split (p : Nat → Bool) (a : Nat) : ∀ b, (List.range (a + b)).countP p = (List.range a).countP p + (List.range b).countP fun i => p (a + i)
  | 0 => by simp
  | b + 1 => by
    rw [← Nat.add_assoc, List.range_succ, List.range_succ, List.countP_append, List.countP_append, countP_split p a b]
    simp [List.countP_cons, Nat.add_assoc]
theorem countP_no (p : Nat → Bool) (n : Nat) (h : ∀ i, i < n → p i = false) : (List.range n).countP p = 0 := by
  rw [List.countP_eq_zero]; intro i hi; rw [h i (by simpa using hi)]; simp
theorem countP_same {p q : Nat → Bool} {n : Nat} (h : ∀ i, i < n → p i = q i) : (List.range n).countP p = (List.range n).countP q := by
  refine List.countP_congr fun i hi => ?_
  rw [h i (by simpa using hi)]

/-- the difference of two rows at a shift of the columns -/
def dif (xs : List Int) (u : Int) (i : Nat) : Int := if 0 ≤ u then gi xs (i + u.natAbs) - gi xs i else gi xs i - gi xs (i + u.natAbs)
theorem meet_dif {xs : List Int} {u v : Int} (h : u.natAbs ≤ xs.length) : meetN xs u v xs.length = (List.range (xs.length - u.natAbs)).countP fun i => decide (dif xs u i = v) := by
  by_cases hu : 0 ≤ u
  · conv => lhs; unfold meetN; rw [show xs.length = (xs.length - u.natAbs) + u.natAbs by omega]
    rw [countP_split, countP_no (fun i => hitB xs u v (xs.length - u.natAbs + i)) _ (fun i hi => hit_no1 (by omega)), Nat.add_zero]
    refine countP_same fun i hi => ?_
    rw [hit_at (j := i + u.natAbs) (by omega) (by omega)]
    unfold dif; rw [if_pos hu]
  · conv => lhs; unfold meetN; rw [show xs.length = u.natAbs + (xs.length - u.natAbs) by omega]
    rw [countP_split, countP_no (hitB xs u v) _ (fun i hi => hit_no1 (by omega)), Nat.zero_add]
    refine countP_same fun i hi => ?_
    rw [hit_at (j := i) (by omega) (by omega)]
    unfold dif; rw [if_neg hu, Nat.add_comm u.natAbs i]
theorem dif_neg (xs : List Int) (u : Int) (i : Nat) : dif xs (-u) i = -(dif xs u i) := by
  unfold dif
  rw [Int.natAbs_neg]
  by_cases h0 : u = 0
  · subst h0; simp
  · by_cases hu : 0 ≤ u
    · rw [if_pos hu, if_neg (by omega)]; omega
    · rw [if_neg hu, if_pos (by omega)]; omega
theorem meet_opp {xs : List Int} {u v : Int} (h : u.natAbs ≤ xs.length) : meetN xs (-u) (-v) xs.length = meetN xs u v xs.length := by
  rw [meet_dif h, meet_dif (by rw [Int.natAbs_neg]; exact h), Int.natAbs_neg]
  refine countP_same fun i hi => ?_
  rw [dif_neg, decide_eq_decide]; omega
theorem dif_rng {xs : List Int} (ho : ordB xs = true) (u : Int) (i : Nat) : -(xs.length : Int) ≤ dif xs u i ∧ dif xs u i < xs.length := by
  have h1 := ordB_small ho i
  have h2 := ordB_small ho (i + u.natAbs)
  unfold dif; split <;> omega

/-- how many differences lie below a number -/
def below (xs : List Int) (u w : Int) : Nat := (List.range (xs.length - u.natAbs)).countP fun i => decide (dif xs u i < w)
theorem countP_add {p q r : Nat → Bool} (h : ∀ i, (r i = true ↔ p i = true ∨ q i = true) ∧ ¬ (p i = true ∧ q i = true)) : ∀ n, (List.range n).countP r = (List.range n).countP p + (List.range n).countP q
  | 0 => rfl
  | n + 1 => by
    rw [List.range_succ, List.countP_append, List.countP_append, List.countP_append, countP_add h n]
    have h1 := (h n).1
    have h2 := (h n).2
    simp only [List.countP_cons, List.countP_nil]
    rcases hp : p n with _ | _ <;> rcases hq : q n with _ | _ <;> rcases hr : r n with _ | _ <;> simp_all <;> omega
theorem below_succ {xs : List Int} {u w : Int} (h : u.natAbs ≤ xs.length) : below xs u (w + 1) = below xs u w + meetN xs u w xs.length := by
  rw [meet_dif h]
  unfold below
  refine countP_add (fun i => ?_) _
  simp only [decide_eq_true_eq]
  omega
theorem below_zero {xs : List Int} (ho : ordB xs = true) (u : Int) : below xs u (-(xs.length : Int)) = 0 := by
  unfold below
  refine countP_no _ _ fun i hi => ?_
  have := dif_rng ho u i
  rw [decide_eq_false_iff_not]; omega
theorem below_all {xs : List Int} (ho : ordB xs = true) (u : Int) {w : Int} (hw : (xs.length : Int) ≤ w) : below xs u w = xs.length - u.natAbs := by
  unfold below
  rw [countP_same (q := fun _ => true) (fun i hi => by have := dif_rng ho u i; rw [decide_eq_true_eq]; omega)]
  simp
theorem below_le (xs : List Int) (u w : Int) : below xs u w ≤ xs.length := by
  have := List.countP_le_length (p := fun i => decide (dif xs u i < w)) (l := List.range (xs.length - u.natAbs))
  simp only [List.length_range] at this
  unfold below; omega
end Go.Proofs.Ytalaimhoammacaa
