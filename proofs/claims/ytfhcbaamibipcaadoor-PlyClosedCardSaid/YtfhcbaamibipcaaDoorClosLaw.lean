/- Closures: plain numbers. -/
import Derived.Test.YtfhcbaamibipcaaDoorPlyLaw
set_option linter.unusedVariables false
set_option linter.unusedSimpArgs false
namespace Go.Proofs.YtfhcbaamibipcaaDoor

def allN (n : Nat) : Nat := 2 ^ n - 1
theorem all_bit (n i : Nat) : (allN n).testBit i = decide (i < n) := Nat.testBit_two_pow_sub_one n i
theorem all_lt (n : Nat) : allN n < 2 ^ n := by unfold allN; have := Nat.two_pow_pos n; omega
/-- the complement -/
def otherN (n s : Nat) : Nat := diff (allN n) s
theorem other_bit (n s i : Nat) : (otherN n s).testBit i = (decide (i < n) && !s.testBit i) := by unfold otherN; rw [diff_bit, all_bit]
theorem other_lt (n s : Nat) : otherN n s < 2 ^ n := diff_lt (all_lt n)
theorem other_sub {n s : Nat} (hs : s < 2 ^ n) : otherN n s = 2 ^ n - 1 - s := by
  refine Nat.eq_of_testBit_eq fun i => ?_
  rw [other_bit, show 2 ^ n - 1 - s = 2 ^ n - (s + 1) by omega, Nat.testBit_two_pow_sub_succ hs]
theorem other_other {n s : Nat} (hs : s < 2 ^ n) : otherN n (otherN n s) = s := ext_bits (other_lt _ _) hs fun i hi => by
  rw [other_bit, other_bit]; simp [hi]
/-- the smallest closed set around a set -/
def closureN (cs : List Nat) (s : Nat) : Nat := otherN cs.length (insideN cs (otherN cs.length s))
theorem closure_lt (cs : List Nat) (s : Nat) : closureN cs s < 2 ^ cs.length := other_lt _ _
/-- a point lies in the closure exactly if its cell meets the set -/
theorem closure_bit {cs : List Nat} (hs : spaceB cs = true) (hc : Codes cs) {s i : Nat} (hi : i < cs.length) : (closureN cs s).testBit i = true ↔ ∃ q, q < cs.length ∧ (cell cs i).testBit q = true ∧ s.testBit q = true := by
  unfold closureN
  rw [other_bit, inside_bit hi, other_bit]
  simp only [hi, decide_true, Bool.true_and, Bool.not_eq_true', Bool.and_eq_false_iff]
  constructor
  · rintro (h | h)
    · exact ⟨i, hi, (space_iff.1 hs i hi).1, by simpa using h⟩
    · have h2 : ¬ subB (cell cs i) (otherN cs.length s) = true := by rw [h]; simp
      rw [sub_iff] at h2
      apply Classical.byContradiction
      intro hne
      apply h2
      intro q hq
      have hqn : q < cs.length := by
        apply Classical.byContradiction
        intro hn
        rw [bit_big (hc.2.2 i) (by omega)] at hq; cases hq
      rw [other_bit]
      rcases hb : s.testBit q with _ | _
      · simp [hqn]
      · exact absurd ⟨q, hqn, hq, hb⟩ hne
  · rintro ⟨q, hq, h1, h2⟩
    right
    rcases h : subB (cell cs i) (otherN cs.length s) with _ | _
    · rfl
    · have := sub_iff.1 h q h1
      rw [other_bit, h2] at this
      simp at this
theorem closure_ge {cs : List Nat} (hs : spaceB cs = true) (hc : Codes cs) {s : Nat} (hl : s < 2 ^ cs.length) : subB s (closureN cs s) = true := sub_of hl fun i hi h =>
  (closure_bit hs hc hi).2 ⟨i, hi, (space_iff.1 hs i hi).1, h⟩
theorem closure_mono {cs : List Nat} (hs : spaceB cs = true) (hc : Codes cs) {s t : Nat} (h : subB s t = true) : subB (closureN cs s) (closureN cs t) = true := sub_of (closure_lt _ _) fun i hi hb => by
  obtain ⟨q, h1, h2, h3⟩ := (closure_bit hs hc hi).1 hb
  exact (closure_bit hs hc hi).2 ⟨q, h1, h2, sub_iff.1 h q h3⟩
theorem closure_twice {cs : List Nat} (hs : spaceB cs = true) (hc : Codes cs) (s : Nat) : closureN cs (closureN cs s) = closureN cs s := ext_bits (closure_lt _ _) (closure_lt _ _) fun i hi => by
  rw [Bool.eq_iff_iff, closure_bit hs hc hi]
  constructor
  · rintro ⟨q, h1, h2, h3⟩
    obtain ⟨r, h4, h5, h6⟩ := (closure_bit hs hc h1).1 h3
    exact (closure_bit hs hc hi).2 ⟨r, h4, sub_iff.1 ((space_iff.1 hs i hi).2 q h1 h2) r h5, h6⟩
  · intro h
    exact ⟨i, hi, (space_iff.1 hs i hi).1, h⟩
theorem closure_or {cs : List Nat} (hs : spaceB cs = true) (hc : Codes cs) (s t : Nat) : closureN cs (s ||| t) = closureN cs s ||| closureN cs t := ext_bits (closure_lt _ _) (or_lt (closure_lt _ _) (closure_lt _ _)) fun i hi => by
  rw [Bool.eq_iff_iff, Nat.testBit_or, Bool.or_eq_true, closure_bit hs hc hi, closure_bit hs hc hi, closure_bit hs hc hi]
  constructor
  · rintro ⟨q, h1, h2, h3⟩
    rw [Nat.testBit_or, Bool.or_eq_true] at h3
    rcases h3 with h3 | h3
    · exact .inl ⟨q, h1, h2, h3⟩
    · exact .inr ⟨q, h1, h2, h3⟩
  · rintro (⟨q, h1, h2, h3⟩ | ⟨q, h1, h2, h3⟩)
    · exact ⟨q, h1, h2, by rw [Nat.testBit_or, h3]; rfl⟩
    · exact ⟨q, h1, h2, by rw [Nat.testBit_or, h3]; simp⟩
theorem closure_zero {cs : List Nat} (hs : spaceB cs = true) (hc : Codes cs) : closureN cs 0 = 0 := ext_bits (closure_lt _ _) (Nat.two_pow_pos _) fun i hi => by
  rw [Nat.zero_testBit]
  rcases h : (closureN cs 0).testBit i with _ | _
  · rfl
  · obtain ⟨q, _, _, h3⟩ := (closure_bit hs hc hi).1 h
    rw [Nat.zero_testBit] at h3; cases h3
theorem sub_and {a b : Nat} (h : subB a b = true) : a &&& b = a := Nat.eq_of_testBit_eq fun i => by
  rw [Nat.testBit_and]
  rcases ha : a.testBit i with _ | _
  · rfl
  · rw [sub_iff.1 h i ha]; rfl
/-- the reference's: what all closed sets around it have in common -/
def meetAll (n s : Nat) (l : List Nat) (b : Nat) : Nat := l.foldl (fun b a => if subB s (otherN n a) = true then b &&& otherN n a else b) b
theorem meet_bit (n s i : Nat) : ∀ (l : List Nat) (b : Nat), (meetAll n s l b).testBit i = true ↔ b.testBit i = true ∧ ∀ a ∈ l, subB s (otherN n a) = true → (otherN n a).testBit i = true
  | [], b => by simp [meetAll]
  | a :: l, b => by
    unfold meetAll
    rw [List.foldl_cons]
    have ih := meet_bit n s i l (if subB s (otherN n a) = true then b &&& otherN n a else b)
    unfold meetAll at ih
    rw [ih]
    by_cases h : subB s (otherN n a) = true
    · rw [if_pos h, Nat.testBit_and, Bool.and_eq_true]
      constructor
      · rintro ⟨⟨h1, h2⟩, h3⟩
        refine ⟨h1, fun c hc hcs => ?_⟩
        rcases List.mem_cons.1 hc with rfl | hc
        · exact h2
        · exact h3 c hc hcs
      · rintro ⟨h1, h2⟩
        exact ⟨⟨h1, h2 a (by simp) h⟩, fun c hc => h2 c (by simp [hc])⟩
    · rw [if_neg h]
      constructor
      · rintro ⟨h1, h2⟩
        refine ⟨h1, fun c hc hcs => ?_⟩
        rcases List.mem_cons.1 hc with rfl | hc
        · exact absurd hcs h
        · exact h2 c hc hcs
      · rintro ⟨h1, h2⟩
        exact ⟨h1, fun c hc => h2 c (by simp [hc])⟩
theorem refClosure_eq {cs : List Nat} (hs : spaceB cs = true) (hc : Codes cs) {s : Nat} (hl : s < 2 ^ cs.length) : meetAll cs.length s (opensN cs) (allN cs.length) = closureN cs s := by
  refine Nat.eq_of_testBit_eq fun i => ?_
  rw [Bool.eq_iff_iff, meet_bit, all_bit, decide_eq_true_eq]
  constructor
  · rintro ⟨hi, h⟩
    have ho : insideN cs (otherN cs.length s) ∈ opensN cs := by
      unfold opensN
      rw [List.mem_filter, List.mem_range]
      exact ⟨inside_lt _ _, inside_open hs hc _⟩
    exact h _ ho (closure_ge hs hc hl)
  · intro h
    have hi : i < cs.length := by
      apply Classical.byContradiction
      intro hn
      rw [bit_big (closure_lt cs s) (by omega)] at h; cases h
    refine ⟨hi, fun a ha hsa => ?_⟩
    unfold opensN at ha
    rw [List.mem_filter, List.mem_range] at ha
    obtain ⟨q, h1, h2, h3⟩ := (closure_bit hs hc hi).1 h
    have h4 := sub_iff.1 hsa q h3
    rw [other_bit] at h4 ⊢
    simp only [h1, hi, decide_true, Bool.true_and, Bool.not_eq_true'] at h4 ⊢
    rcases hb : a.testBit i with _ | _
    · rfl
    · rw [sub_iff.1 (open_iff.1 ha.2 i hi hb) q h2] at h4; cases h4
end Go.Proofs.YtfhcbaamibipcaaDoor
