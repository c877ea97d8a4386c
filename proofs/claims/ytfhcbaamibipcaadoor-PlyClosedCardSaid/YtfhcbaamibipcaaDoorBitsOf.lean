/- The points of a set, in ascending order; sets of at most six points, one by one: plain numbers. -/
import Derived.Test.YtfhcbaamibipcaaDoorTurnLaw
import Derived.Lib.TrailingZeros
set_option linter.unusedVariables false
set_option linter.unusedSimpArgs false
namespace Go.Proofs.YtfhcbaamibipcaaDoor

def bitsOf (s : Nat) : List Nat := (List.range 6).filter fun i => s.testBit i
theorem bitsOf_mem {s i : Nat} (hs : s < 64) : i ∈ bitsOf s ↔ s.testBit i = true := by
  unfold bitsOf
  rw [List.mem_filter, List.mem_range]
  constructor
  · exact fun h => h.2
  · intro h
    refine ⟨?_, h⟩
    apply Classical.byContradiction
    intro hn
    rw [bit_big (n := 6) hs (by omega)] at h; cases h
theorem bitsOf_lt {s i : Nat} (h : i ∈ bitsOf s) : i < 6 := by
  unfold bitsOf at h
  rw [List.mem_filter, List.mem_range] at h
  exact h.1
theorem bitsOf_nodup (s : Nat) : (bitsOf s).Nodup := List.nodup_range.sublist List.filter_sublist
theorem bitsOf_step' : (List.range 64).all (fun c => c == 0 || (bitsOf c == Lib.ctz 64 c :: bitsOf (c &&& (c - 1)) && decide ((c &&& (c - 1)) < c) && decide (Lib.ctz 64 c < 6) && c.testBit (Lib.ctz 64 c))) = true := by decide +kernel
theorem bitsOf_step {c : Nat} (hc : c < 64) (h0 : c ≠ 0) : bitsOf c = Lib.ctz 64 c :: bitsOf (c &&& (c - 1)) ∧ (c &&& (c - 1)) < c ∧ Lib.ctz 64 c < 6 := by
  have h := List.all_eq_true.1 bitsOf_step' c (List.mem_range.2 hc)
  simp only [Bool.or_eq_true, Bool.and_eq_true, beq_iff_eq, decide_eq_true_eq] at h
  rcases h with h | h
  · exact absurd h h0
  · exact ⟨h.1.1.1, h.1.1.2, h.1.2⟩
theorem bitsOf_zero : bitsOf 0 = [] := rfl

theorem pair64 {P : Nat → Nat → Bool} {m : Nat} (h : (List.range 64).all (fun a => (List.range m).all fun b => P a b) = true) {a b : Nat} (ha : a < 64) (hb : b < m) : P a b = true :=
  List.all_eq_true.1 (List.all_eq_true.1 h a (List.mem_range.2 ha)) b (List.mem_range.2 hb)
theorem diff_le (a b : Nat) : diff a b ≤ a := by
  have h : diff a b = a &&& diff (2 ^ a - 1) b := Nat.eq_of_testBit_eq fun i => by
    rw [Nat.testBit_and, diff_bit, diff_bit, Nat.testBit_two_pow_sub_one]
    by_cases hi : i < a
    · simp [hi]
    · rw [bit_big (n := a) Nat.lt_two_pow_self (by omega)]; simp
  rw [h]; exact Nat.and_le_left
theorem diff_lt_self {s p : Nat} (h : s.testBit p = true) : diff s (2 ^ p) < s := by
  have h1 := diff_le s (2 ^ p)
  have h2 : diff s (2 ^ p) ≠ s := fun e => by
    have h3 := diff_bit s (2 ^ p) p
    rw [e, h, Nat.testBit_two_pow_self] at h3
    cases h3
  omega
theorem sub_pow' : (List.range 64).all (fun a => (List.range 6).all fun b => !a.testBit b || decide (a - 2 ^ b = diff a (2 ^ b) ∧ 2 ^ b ≤ a)) = true := by decide +kernel
theorem sub_pow {a b : Nat} (ha : a < 64) (hb : b < 6) (h : a.testBit b = true) : a - 2 ^ b = diff a (2 ^ b) ∧ 2 ^ b ≤ a := by
  have h2 := pair64 sub_pow' ha hb
  rw [h] at h2
  simpa using h2
theorem add_pow' : (List.range 64).all (fun a => (List.range 6).all fun b => a.testBit b || decide (a + 2 ^ b = (a ||| 2 ^ b))) = true := by decide +kernel
theorem add_pow {a b : Nat} (ha : a < 64) (hb : b < 6) (h : a.testBit b = false) : a + 2 ^ b = (a ||| 2 ^ b) := by
  have h2 := pair64 add_pow' ha hb
  rw [h] at h2
  simpa using h2
theorem sub_set' : (List.range 64).all (fun a => (List.range 64).all fun b => !subB b a || decide (a - b = diff a b ∧ b ≤ a)) = true := by decide +kernel
theorem sub_set {a b : Nat} (ha : a < 64) (hb : b < 64) (h : subB b a = true) : a - b = diff a b ∧ b ≤ a := by
  have h2 := pair64 sub_set' ha hb
  rw [h] at h2
  simpa using h2
theorem pow_lt64 {p : Nat} (hp : p < 6) : 2 ^ p < 64 := by
  have h : p = 0 ∨ p = 1 ∨ p = 2 ∨ p = 3 ∨ p = 4 ∨ p = 5 := by omega
  rcases h with rfl | rfl | rfl | rfl | rfl | rfl <;> decide
theorem set_lt {n s p : Nat} (hs : s < 2 ^ n) (h : s.testBit p = true) : p < n := by
  apply Classical.byContradiction
  intro hn
  rw [bit_big hs (by omega)] at h; cases h
theorem without_bit (S p r : Nat) : (diff S (2 ^ p)).testBit r = true ↔ S.testBit r = true ∧ r ≠ p := by
  rw [diff_bit, Nat.testBit_two_pow]
  by_cases e : p = r
  · subst e; simp
  · simp [e]; exact fun _ h => e h.symm
end Go.Proofs.YtfhcbaamibipcaaDoor
