/- Plain law: the known orders (the powers of a root, the logs of two roots) are orders, and clear. -/
import Derived.Test.YtgonofgoaomnfaaNoClash
import Derived.Test.YtgonofgoaomnfaaWc
set_option linter.unusedVariables false
set_option linter.unusedSimpArgs false
namespace Go.Proofs.Ytgonofgoaomnfaa

theorem gi_powersL {p g s : Int} {n i : Nat} (h : i < n) : gi (powersL p g s n) i = pw p g (((i : Int) + s) % (p - 1)).toNat - 1 := by
  rw [gi_lt (by rw [powersL_len]; exact h)]; simp [powersL]
theorem prime_mem {p : Int} (hp : primeB p = true) : p ∈ [(3 : Int), 5, 7, 11, 13, 17] := by
  rcases primeB_cases hp with h | h | h | h | h | h <;> simp [h]

def welchB : Bool := [3, 5, 7, 11, 13, 17].all fun (p : Int) => (List.range 17).all fun g => !(rootB p g) ||
  (List.range (p.toNat - 1)).all fun i => decide (1 ≤ pw p g i) && (List.range (p.toNat - 1)).all fun k => i == k || (!(pw p g i == pw p g k) &&
    (List.range (p.toNat - 1)).all fun d => d == 0 || !(pw p g ((i + d) % (p.toNat - 1)) - pw p g i == pw p g ((k + d) % (p.toNat - 1)) - pw p g k))
theorem welchB_true : welchB = true := by kernel_rfl
theorem welch {p g : Int} (h1 : rootB p g = true) {i : Nat} (hi : i < p.toNat - 1) : 1 ≤ pw p g i ∧ ∀ k, k < p.toNat - 1 → i ≠ k → pw p g i ≠ pw p g k ∧ ∀ d, d < p.toNat - 1 → d ≠ 0 → pw p g ((i + d) % (p.toNat - 1)) - pw p g i ≠ pw p g ((k + d) % (p.toNat - 1)) - pw p g k := by
  obtain ⟨hp, hg1, hg2⟩ := rootB_prime h1
  obtain ⟨h3, h17⟩ := primeB_rng hp
  have H := List.all_eq_true.1 (List.all_eq_true.1 welchB_true p (prime_mem hp)) g.toNat (by simp; omega)
  rw [Int.toNat_of_nonneg (by omega : 0 ≤ g), h1] at H
  simp only [Bool.not_true, Bool.false_or] at H
  have H2 := List.all_eq_true.1 H i (by simp; omega)
  rw [Bool.and_eq_true, decide_eq_true_eq] at H2
  refine ⟨H2.1, fun k hk hne => ?_⟩
  have H3 := List.all_eq_true.1 H2.2 k (by simp; omega)
  have e1 : (i == k) = false := by simpa using hne
  rw [e1, Bool.false_or, Bool.and_eq_true] at H3
  refine ⟨by simpa using H3.1, fun d hd hd0 => ?_⟩
  have H4 := List.all_eq_true.1 H3.2 d (by simp; omega)
  have e2 : (d == 0) = false := by simpa using hd0
  rw [e2, Bool.false_or] at H4
  simpa using H4

theorem powers_at {p g : Int} {s i : Nat} (hp : primeB p = true) (hi : i < p.toNat - 1) : gi (powersL p g s (p.toNat - 1)) i = pw p g ((i + s) % (p.toNat - 1)) - 1 := by
  rw [gi_powersL hi]
  congr 2
  rcases primeB_cases hp with h | h | h | h | h | h <;> subst h <;> simp <;> omega

theorem ordB_intro {xs : List Int} {n : Nat} (hl : xs.length = n) (h1 : 1 ≤ n) (h2 : n ≤ 16) (hr : ∀ i, i < n → 0 ≤ gi xs i ∧ gi xs i < n) (hd : ∀ i k, i < k → k < n → gi xs i ≠ gi xs k) : ordB xs = true := by
  simp only [ordB, decide_eq_true_eq]
  subst hl
  refine ⟨h1, h2, fun x hx => ?_, ?_⟩
  · obtain ⟨j, hj, rfl⟩ := List.getElem_of_mem hx
    have := hr j hj; rwa [gi_lt hj] at this
  · rw [List.nodup_iff_pairwise_ne, List.pairwise_iff_getElem]
    intro i j hi hj hij
    have := hd i j hij hj
    rwa [gi_lt hi, gi_lt hj] at this

theorem shift_ne {p : Int} {s i k : Nat} (hp : primeB p = true) (hik : i < k) (hk : k < p.toNat - 1) : (i + s) % (p.toNat - 1) ≠ (k + s) % (p.toNat - 1) := by
  rcases primeB_cases hp with h | h | h | h | h | h <;> subst h <;> simp at hk ⊢ <;> omega
theorem shift_add {p : Int} {s i d : Nat} (hp : primeB p = true) : (i + d + s) % (p.toNat - 1) = ((i + s) % (p.toNat - 1) + d) % (p.toNat - 1) := by
  rw [Nat.mod_add_mod]; congr 1; omega

theorem powers_ord {p g : Int} {s : Nat} (h1 : rootB p g = true) : ordB (powersL p g s (p.toNat - 1)) = true := by
  obtain ⟨hp, hg1, hg2⟩ := rootB_prime h1
  obtain ⟨h3, h17⟩ := primeB_rng hp
  refine ordB_intro (powersL_len _ _ _ _) (by omega) (by omega) (fun i hi => ?_) (fun i k hik hk => ?_)
  · rw [powers_at hp hi]
    have hm : (i + s) % (p.toNat - 1) < p.toNat - 1 := Nat.mod_lt _ (by omega)
    have := (welch h1 hm).1
    have := (pw_rng (p := p) (g := g) (by omega) ((i + s) % (p.toNat - 1))).2
    omega
  · rw [powers_at hp (by omega), powers_at hp hk]
    have hm : (i + s) % (p.toNat - 1) < p.toNat - 1 := Nat.mod_lt _ (by omega)
    have hm2 : (k + s) % (p.toNat - 1) < p.toNat - 1 := Nat.mod_lt _ (by omega)
    have := ((welch h1 hm).2 _ hm2 (shift_ne hp hik hk)).1
    omega
theorem powers_clear {p g : Int} {s : Nat} (h1 : rootB p g = true) : NoClash (powersL p g s (p.toNat - 1)) := by
  obtain ⟨hp, hg1, hg2⟩ := rootB_prime h1
  obtain ⟨h3, h17⟩ := primeB_rng hp
  intro i k d hik hd hkd
  rw [powersL_len] at hkd
  rw [powers_at hp (by omega), powers_at hp (by omega), powers_at hp (by omega), powers_at hp (by omega), shift_add hp, shift_add hp (i := k)]
  have hm : (i + s) % (p.toNat - 1) < p.toNat - 1 := Nat.mod_lt _ (by omega)
  have hm2 : (k + s) % (p.toNat - 1) < p.toNat - 1 := Nat.mod_lt _ (by omega)
  have := ((welch h1 hm).2 _ hm2 (shift_ne hp hik (by omega))).2 d (by omega) (by omega)
  omega

def golombB : Bool := [3, 5, 7, 11, 13, 17].all fun (p : Int) => (List.range 17).all fun g => (List.range 17).all fun h => !(rootB p g) || !(rootB p h) ||
  ordB (logsL p g h (p.toNat - 2)) && noClashB (logsL p g h (p.toNat - 2))
theorem golombB_true : golombB = true := by kernel_rfl
theorem golomb {p g h : Int} (h1 : rootB p g = true) (h2 : rootB p h = true) : ordB (logsL p g h (p.toNat - 2)) = true ∧ NoClash (logsL p g h (p.toNat - 2)) := by
  obtain ⟨hp, hg1, hg2⟩ := rootB_prime h1
  obtain ⟨_, hh1, hh2⟩ := rootB_prime h2
  obtain ⟨h3, h17⟩ := primeB_rng hp
  have H := List.all_eq_true.1 (List.all_eq_true.1 (List.all_eq_true.1 golombB_true p (prime_mem hp)) g.toNat (by simp; omega)) h.toNat (by simp; omega)
  rw [Int.toNat_of_nonneg (by omega : 0 ≤ g), Int.toNat_of_nonneg (by omega : 0 ≤ h), h1, h2] at H
  simp only [Bool.not_true, Bool.false_or, Bool.and_eq_true] at H
  exact ⟨H.1, noClash_of_B H.2⟩
end Go.Proofs.Ytgonofgoaomnfaa
