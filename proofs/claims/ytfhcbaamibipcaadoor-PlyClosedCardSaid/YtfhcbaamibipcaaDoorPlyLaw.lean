/- Spaces of few points: plain numbers as sets of points. -/
import Derived.Test.YtfhcbaamibipcaaDoorBitsLaw
set_option linter.unusedVariables false
set_option linter.unusedSimpArgs false
namespace Go.Proofs.YtfhcbaamibipcaaDoor

/-- a lies in b -/
def subB (a b : Nat) : Bool := decide (diff a b = 0)
theorem sub_iff {a b : Nat} : subB a b = true ↔ ∀ i, a.testBit i = true → b.testBit i = true := by
  unfold subB
  rw [decide_eq_true_eq]
  constructor
  · intro h i hi
    have h2 := diff_bit a b i
    rw [h, Nat.zero_testBit, hi, Bool.true_and] at h2
    rcases hb : b.testBit i with _ | _
    · rw [hb] at h2; cases h2
    · rfl
  · intro h
    refine Nat.eq_of_testBit_eq fun i => ?_
    rw [diff_bit, Nat.zero_testBit]
    rcases ha : a.testBit i with _ | _
    · rfl
    · rw [h i ha]; rfl
theorem sub_refl (a : Nat) : subB a a = true := sub_iff.2 fun _ h => h
theorem sub_trans {a b c : Nat} (h1 : subB a b = true) (h2 : subB b c = true) : subB a c = true := sub_iff.2 fun i h => sub_iff.1 h2 i (sub_iff.1 h1 i h)
theorem bit_big {a n i : Nat} (ha : a < 2 ^ n) (hi : n ≤ i) : a.testBit i = false := Nat.testBit_lt_two_pow (Nat.lt_of_lt_of_le ha (Nat.pow_le_pow_right (by omega) hi))
theorem ext_bits {a b n : Nat} (ha : a < 2 ^ n) (hb : b < 2 ^ n) (h : ∀ i, i < n → a.testBit i = b.testBit i) : a = b := by
  refine Nat.eq_of_testBit_eq fun i => ?_
  by_cases hi : i < n
  · exact h i hi
  · rw [bit_big ha (by omega), bit_big hb (by omega)]
theorem sub_of {a b n : Nat} (ha : a < 2 ^ n) (h : ∀ i, i < n → a.testBit i = true → b.testBit i = true) : subB a b = true := sub_iff.2 fun i hi => by
  by_cases hn : i < n
  · exact h i hn hi
  · rw [bit_big ha (by omega)] at hi; cases hi

/-- the set of the points below n with a property -/
def gather (P : Nat → Bool) : Nat → Nat
  | 0 => 0
  | n + 1 => gather P n ||| (if P n = true then 2 ^ n else 0)
theorem gather_bit (P : Nat → Bool) : ∀ n i, (gather P n).testBit i = (decide (i < n) && P i)
  | 0, i => by simp [gather]
  | n + 1, i => by
    unfold gather
    rw [Nat.testBit_or, gather_bit P n i]
    by_cases hp : P n = true
    · rw [if_pos hp, Nat.testBit_two_pow]
      by_cases e : n = i
      · subst e; simp [hp]
      · simp only [e, decide_false, Bool.or_false]
        by_cases h : i < n
        · simp [h, show i < n + 1 by omega]
        · simp [h, show ¬ i < n + 1 by omega]
    · rw [if_neg hp, Nat.zero_testBit, Bool.or_false]
      by_cases e : i = n
      · subst e; simp [hp]
      · by_cases h : i < n
        · simp [h, show i < n + 1 by omega]
        · simp [h, show ¬ i < n + 1 by omega]
theorem gather_lt (P : Nat → Bool) (n : Nat) : gather P n < 2 ^ n := by
  refine Nat.lt_pow_two_of_testBit _ fun i hi => ?_
  rw [gather_bit]; simp [show ¬ i < n by omega]
theorem gather_same {P Q : Nat → Bool} {n : Nat} (h : ∀ i, i < n → P i = Q i) : gather P n = gather Q n :=
  ext_bits (gather_lt P n) (gather_lt Q n) fun i hi => by rw [gather_bit, gather_bit, h i hi]

/-- cells -/
def cell (cs : List Nat) (p : Nat) : Nat := cs.getD p 0
def Codes (cs : List Nat) : Prop := 1 ≤ cs.length ∧ cs.length ≤ 6 ∧ ∀ p, cell cs p < 2 ^ cs.length
def spaceB (cs : List Nat) : Bool := (List.range cs.length).all fun p => (cell cs p).testBit p && (List.range cs.length).all fun q => !(cell cs p).testBit q || subB (cell cs q) (cell cs p)
theorem space_iff {cs : List Nat} : spaceB cs = true ↔ ∀ p, p < cs.length → (cell cs p).testBit p = true ∧ ∀ q, q < cs.length → (cell cs p).testBit q = true → subB (cell cs q) (cell cs p) = true := by
  unfold spaceB
  simp only [List.all_eq_true, List.mem_range, Bool.and_eq_true, Bool.or_eq_true, Bool.not_eq_true']
  constructor
  · intro h p hp
    refine ⟨(h p hp).1, fun q hq hb => ?_⟩
    rcases (h p hp).2 q hq with h2 | h2
    · rw [h2] at hb; cases hb
    · exact h2
  · intro h p hp
    refine ⟨(h p hp).1, fun q hq => ?_⟩
    rcases hb : (cell cs p).testBit q with _ | _
    · exact .inl rfl
    · exact .inr ((h p hp).2 q hq hb)

def openB (cs : List Nat) (s : Nat) : Bool := (List.range cs.length).all fun p => !s.testBit p || subB (cell cs p) s
theorem open_iff {cs : List Nat} {s : Nat} : openB cs s = true ↔ ∀ p, p < cs.length → s.testBit p = true → subB (cell cs p) s = true := by
  unfold openB
  simp only [List.all_eq_true, List.mem_range, Bool.or_eq_true, Bool.not_eq_true']
  constructor
  · intro h p hp hb
    rcases h p hp with h2 | h2
    · rw [h2] at hb; cases hb
    · exact h2
  · intro h p hp
    rcases hb : s.testBit p with _ | _
    · exact .inl rfl
    · exact .inr (h p hp hb)
/-- the cell of a point is open -/
theorem cell_open {cs : List Nat} (hs : spaceB cs = true) {p : Nat} (hp : p < cs.length) : openB cs (cell cs p) = true := open_iff.2 fun q hq hb => (space_iff.1 hs p hp).2 q hq hb
/-- the greatest open set in a set -/
def insideN (cs : List Nat) (s : Nat) : Nat := gather (fun p => s.testBit p && subB (cell cs p) s) cs.length
theorem inside_bit {cs : List Nat} {s i : Nat} (hi : i < cs.length) : (insideN cs s).testBit i = (s.testBit i && subB (cell cs i) s) := by unfold insideN; rw [gather_bit]; simp [hi]
theorem inside_lt (cs : List Nat) (s : Nat) : insideN cs s < 2 ^ cs.length := gather_lt _ _
theorem inside_sub (cs : List Nat) (s : Nat) : subB (insideN cs s) s = true := sub_of (inside_lt cs s) fun i hi h => by
  rw [inside_bit hi, Bool.and_eq_true] at h; exact h.1
theorem inside_open {cs : List Nat} (hs : spaceB cs = true) (hc : Codes cs) (s : Nat) : openB cs (insideN cs s) = true := open_iff.2 fun p hp h => by
  rw [inside_bit hp, Bool.and_eq_true] at h
  refine sub_of (hc.2.2 p) fun q hq hb => ?_
  rw [inside_bit hq, Bool.and_eq_true]
  exact ⟨sub_iff.1 h.2 q hb, sub_trans ((space_iff.1 hs p hp).2 q hq hb) h.2⟩
theorem inside_max {cs : List Nat} {a s : Nat} (ha : a < 2 ^ cs.length) (ho : openB cs a = true) (h : subB a s = true) : subB a (insideN cs s) = true := sub_of ha fun i hi hb => by
  rw [inside_bit hi, Bool.and_eq_true]
  exact ⟨sub_iff.1 h i hb, sub_trans (open_iff.1 ho i hi hb) h⟩
theorem inside_fix {cs : List Nat} {s : Nat} (hl : s < 2 ^ cs.length) : insideN cs s = s ↔ openB cs s = true := by
  constructor
  · intro h
    refine open_iff.2 fun p hp hb => ?_
    rw [← h, inside_bit hp, Bool.and_eq_true] at hb
    exact hb.2
  · intro h
    refine ext_bits (inside_lt cs s) hl fun i hi => ?_
    rw [inside_bit hi]
    rcases hb : s.testBit i with _ | _
    · rfl
    · rw [open_iff.1 h i hi hb]; rfl
/-- the join of the open sets in a set -/
def opensN (cs : List Nat) : List Nat := (List.range (2 ^ cs.length)).filter fun s => openB cs s
def joinN (s : Nat) (l : List Nat) : Nat := l.foldl (fun b a => if subB a s = true then b ||| a else b) 0
theorem join_bit (s : Nat) (i : Nat) : ∀ (l : List Nat) (b : Nat), (l.foldl (fun b a => if subB a s = true then b ||| a else b) b).testBit i = true ↔ b.testBit i = true ∨ ∃ a ∈ l, subB a s = true ∧ a.testBit i = true
  | [], b => by simp
  | a :: l, b => by
    rw [List.foldl_cons, join_bit s i l]
    by_cases h : subB a s = true
    · rw [if_pos h, Nat.testBit_or, Bool.or_eq_true]
      constructor
      · rintro ((h1 | h1) | ⟨c, h1, h2⟩)
        · exact .inl h1
        · exact .inr ⟨a, by simp, h, h1⟩
        · exact .inr ⟨c, by simp [h1], h2⟩
      · rintro (h1 | ⟨c, h1, h2, h3⟩)
        · exact .inl (.inl h1)
        · rcases List.mem_cons.1 h1 with rfl | h1
          · exact .inl (.inr h3)
          · exact .inr ⟨c, h1, h2, h3⟩
    · rw [if_neg h]
      constructor
      · rintro (h1 | ⟨c, h1, h2⟩)
        · exact .inl h1
        · exact .inr ⟨c, by simp [h1], h2⟩
      · rintro (h1 | ⟨c, h1, h2, h3⟩)
        · exact .inl h1
        · rcases List.mem_cons.1 h1 with rfl | h1
          · exact absurd h2 h
          · exact .inr ⟨c, h1, h2, h3⟩
theorem refInside_eq {cs : List Nat} (hs : spaceB cs = true) (hc : Codes cs) (s : Nat) : joinN s (opensN cs) = insideN cs s := by
  refine Nat.eq_of_testBit_eq fun i => ?_
  rw [Bool.eq_iff_iff]
  unfold joinN
  rw [join_bit]
  constructor
  · rintro (h | ⟨a, h1, h2, h3⟩)
    · rw [Nat.zero_testBit] at h; cases h
    · unfold opensN at h1
      rw [List.mem_filter, List.mem_range] at h1
      exact sub_iff.1 (inside_max h1.1 h1.2 h2) i h3
  · intro h
    refine .inr ⟨insideN cs s, ?_, inside_sub cs s, h⟩
    unfold opensN
    rw [List.mem_filter, List.mem_range]
    exact ⟨inside_lt cs s, inside_open hs hc s⟩
end Go.Proofs.YtfhcbaamibipcaaDoor
