/- Corners of an order: plain lists. -/
import Derived.Test.YtfhjfelbllphnaaRCorn
import Derived.Test.YtfhjfelbllphnaaPairLaw
import Derived.Test.YtfhjfelbllphnaaTurned
set_option linter.unusedVariables false
set_option linter.unusedSimpArgs false
namespace Go.Proofs.Ytfhjfelbllphnaa

theorem gi_mRow {xs : List Int} {p n i : Nat} (h : i < n) : gi (mRow xs p n) i = gi xs i + 1 - (p : Int) := by
  rw [gi_lt (by rw [mRow_len]; exact h)]; simp [mRow]
theorem clearB_mRow {xs : List Int} {p : Nat} (h : clearB (mRow xs p xs.length) = true) : clearB xs = true := by
  rw [clearB_iff] at h ⊢
  intro i d k hd hik hk
  have := h i d k hd hik (by rw [mRow_len]; exact hk)
  rw [gi_mRow (by omega), gi_mRow (by omega), gi_mRow (by omega), gi_mRow (by omega)] at this
  omega
theorem gi_cons' (y : Int) (xs : List Int) (j : Nat) : gi (y :: xs) (j + 1) = gi xs j := by simp [gi]
theorem clearB_tail {y : Int} {xs : List Int} (h : clearB (y :: xs) = true) : clearB xs = true := by
  rw [clearB_iff] at h ⊢
  intro i d k hd hik hk
  have := h (i + 1) d (k + 1) hd (by omega) (by simp; omega)
  rw [show i + 1 + d = i + d + 1 by omega, show k + 1 + d = k + d + 1 by omega, gi_cons', gi_cons', gi_cons', gi_cons'] at this
  exact this
theorem corner_clear {xs : List Int} {c : Nat} (h : clearB (cornerL xs c) = true) : clearB xs = true := by
  unfold cornerL at h
  split at h
  · exact clearB_mRow (clearB_tail h)
  · exact clearB_mRow (clearB_prefix (List.prefix_append _ _) h)
theorem corner_none {xs : List Int} (h : clearB xs = false) (k : Nat) : cornTo xs k = [] := by
  unfold cornTo
  rw [List.map_eq_nil_iff, List.filter_eq_nil_iff]
  intro c _ hc
  rw [corner_clear hc] at h; cases h
theorem gi_zero' (y : Int) (xs : List Int) : gi (y :: xs) 0 = y := by simp [gi]
theorem gi_app_lt {xs : List Int} {y : Int} {j : Nat} (h : j < xs.length) : gi (xs ++ [y]) j = gi xs j := by simp [gi, List.getElem?_append_left h]
theorem gi_app_eq {xs : List Int} {y : Int} {j : Nat} (h : j = xs.length) : gi (xs ++ [y]) j = y := by subst h; simp [gi]
theorem corner_ord {xs : List Int} (ho : ordB xs = true) (h15 : xs.length ≤ 15) (c : Nat) : ordB (cornerL xs c) = true := by
  obtain ⟨hl1, hl2⟩ := ordB_len ho
  have hr := ordB_under ho
  have hd := @ordB_dist xs ho
  have hp : c % 2 = 0 ∨ c % 2 = 1 := by omega
  have hm : ∀ i, i < xs.length → gi (mRow xs (c % 2) xs.length) i = gi xs i + 1 - ((c % 2 : Nat) : Int) := fun i hi => gi_mRow hi
  have hml := mRow_len xs (c % 2) xs.length
  refine ordB_mk (n := xs.length + 1) (cornerL_len xs c) (by omega) (by omega) ?_ ?_
  · intro i hi
    unfold cornerL
    split
    · cases i with
      | zero => rw [gi_zero']; rcases hp with e | e <;> rw [e] <;> omega
      | succ i => rw [gi_cons', hm i (by omega)]; have := hr i; rcases hp with e | e <;> rw [e] <;> omega
    · by_cases e2 : i < xs.length
      · rw [gi_app_lt (by rw [hml]; exact e2), hm i e2]; have := hr i; rcases hp with e | e <;> rw [e] <;> omega
      · rw [gi_app_eq (by rw [hml]; omega)]; rcases hp with e | e <;> rw [e] <;> omega
  · intro i k hik hk
    unfold cornerL
    split
    · cases i with
      | zero =>
        cases k with
        | zero => omega
        | succ k => rw [gi_zero', gi_cons', hm k (by omega)]; have := hr k; rcases hp with e | e <;> rw [e] <;> omega
      | succ i =>
        cases k with
        | zero => omega
        | succ k => rw [gi_cons', gi_cons', hm i (by omega), hm k (by omega)]; have := hd (i := i) (k := k) (by omega) (by omega); omega
    · by_cases e2 : k < xs.length
      · rw [gi_app_lt (by rw [hml]; omega), gi_app_lt (by rw [hml]; exact e2), hm i (by omega), hm k e2]; have := hd hik e2; omega
      · rw [gi_app_lt (by rw [hml]; omega), gi_app_eq (by rw [hml]; omega), hm i (by omega)]; have := hr i; rcases hp with e | e <;> rw [e] <;> omega
theorem corn_at {xs : List Int} {k i : Nat} (hi : i < (cornTo xs k).length) : ∃ c : Nat, gi (cornTo xs k) i = c ∧ c < k ∧ clearB (cornerL xs c) = true := by
  have := gi_mem hi
  unfold cornTo at this
  obtain ⟨c, hc, h⟩ := List.mem_map.1 this
  obtain ⟨h1, h2⟩ := List.mem_filter.1 hc
  exact ⟨c, h.symm, by simpa using h1, h2⟩
theorem corn_asc {xs : List Int} {k i j : Nat} (hij : i < j) (hj : j < (cornTo xs k).length) : gi (cornTo xs k) i < gi (cornTo xs k) j := by
  have h : (cornTo xs k).Pairwise (· < ·) := by
    unfold cornTo
    rw [List.pairwise_map]
    exact (List.pairwise_lt_range.filter _).imp (fun h => by omega)
  rw [gi_lt hj, gi_lt (by omega)]
  exact List.pairwise_iff_getElem.1 h i j (by omega) hj hij
end Go.Proofs.Ytfhjfelbllphnaa
