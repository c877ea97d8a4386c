/- Plain law: an order is clear exactly if no two pairs of columns at the same distance have the same difference. -/
import Derived.Test.YtgonofgoaomnfaaClear
set_option linter.unusedVariables false
set_option linter.unusedSimpArgs false
namespace Go.Proofs.Ytgonofgoaomnfaa

theorem mem_pairsN {n : Nat} {p : Nat × Nat} : p ∈ pairsN n ↔ p.1 < p.2 ∧ p.2 < n := by
  obtain ⟨i, j⟩ := p
  simp only [pairsN, uptoN, rowN, List.mem_flatMap, List.mem_range, List.mem_map, Prod.mk.injEq]
  constructor
  · rintro ⟨a, ha, m, hm, rfl, rfl⟩; omega
  · rintro ⟨h1, h2⟩; exact ⟨i, by omega, j - i - 1, by omega, rfl, by omega⟩

/-- no two pairs of columns at the same distance have the same difference -/
def NoClash (xs : List Int) : Prop := ∀ i k d, i < k → 1 ≤ d → k + d < xs.length → gi xs (i + d) - gi xs i ≠ gi xs (k + d) - gi xs k
theorem firstClash_of_no {xs : List Int} (h : NoClash xs) : firstClash xs = none := by
  refine firstClash_none fun p hp => firstIn_none fun q hq => ?_
  rw [mem_pairsN] at hp hq
  unfold clash
  rcases hlt : decide (p.1 < q.1) with _ | _
  · rfl
  · rw [decide_eq_true_eq] at hlt
    rw [Bool.true_and, decide_eq_false_iff_not]
    intro he
    have h1 := congrArg Prod.fst he
    have h2 := congrArg Prod.snd he
    simp only [stepOf] at h1 h2
    refine h p.1 q.1 (p.2 - p.1) hlt (by omega) (by omega) ?_
    rw [show p.1 + (p.2 - p.1) = p.2 by omega, show q.1 + (p.2 - p.1) = q.2 by omega]
    exact h2
theorem noClash_of_first {xs : List Int} (h : firstClash xs = none) : NoClash xs := by
  intro i k d h1 h2 h3 he
  unfold firstClash at h
  rw [List.findSome?_eq_none_iff] at h
  have h4 := h (i, i + d) (mem_pairsN.2 ⟨by simp; omega, by simp; omega⟩)
  simp only [Option.map_eq_none_iff] at h4
  unfold firstIn at h4
  rw [List.find?_eq_none] at h4
  refine h4 (k, k + d) (mem_pairsN.2 ⟨by simp; omega, by simp; omega⟩) ?_
  have e : stepOf xs (i, i + d) = stepOf xs (k, k + d) := by
    unfold stepOf
    rw [Prod.mk.injEq]
    exact ⟨by simp only []; omega, he⟩
  unfold clash
  rw [e, decide_eq_true h1]
  simp
theorem clearS_yes {xs : List Int} (ho : ordB xs = true) (h : NoClash xs) : clearS xs = .tuple #[.agg zero4, .bool true, .int .i64 0] := by
  unfold clearS; rw [if_pos ho, firstClash_of_no h]

/-- the same as a test -/
def noClashB (xs : List Int) : Bool := (List.range xs.length).all fun d => (List.range (xs.length - (d + 1))).all fun k => (List.range k).all fun i =>
  !(gi xs (i + (d + 1)) - gi xs i == gi xs (k + (d + 1)) - gi xs k)
theorem noClash_of_B {xs : List Int} (h : noClashB xs = true) : NoClash xs := by
  intro i k d h1 h2 h3 he
  have H := List.all_eq_true.1 (List.all_eq_true.1 (List.all_eq_true.1 h (d - 1) (by simp; omega)) k (by simp; omega)) i (by simpa using h1)
  rw [show d - 1 + 1 = d by omega, he] at H
  simp at H
theorem B_of_noClash {xs : List Int} (h : NoClash xs) : noClashB xs = true := by
  refine List.all_eq_true.2 fun d hd => List.all_eq_true.2 fun k hk => List.all_eq_true.2 fun i hi => ?_
  simp only [List.mem_range] at hd hk hi
  have := h i k (d + 1) hi (by omega) (by omega)
  simpa using this
end Go.Proofs.Ytgonofgoaomnfaa
