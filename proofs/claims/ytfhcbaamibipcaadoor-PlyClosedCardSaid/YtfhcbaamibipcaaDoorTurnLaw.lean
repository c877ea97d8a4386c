/- The turned space: plain numbers. -/
import Derived.Test.YtfhcbaamibipcaaDoorClosLaw
set_option linter.unusedVariables false
set_option linter.unusedSimpArgs false
namespace Go.Proofs.YtfhcbaamibipcaaDoor

def turnedN (cs : List Nat) : List Nat := (List.range cs.length).map fun p => gather (fun q => (cell cs q).testBit p) cs.length
theorem turned_len (cs : List Nat) : (turnedN cs).length = cs.length := by simp [turnedN]
theorem turned_cell {cs : List Nat} {p : Nat} (hp : p < cs.length) : cell (turnedN cs) p = gather (fun q => (cell cs q).testBit p) cs.length := by
  unfold cell turnedN
  rw [List.getD_eq_getElem?_getD, List.getElem?_map, List.getElem?_range hp]; rfl
theorem turned_bit {cs : List Nat} {p q : Nat} (hp : p < cs.length) (hq : q < cs.length) : (cell (turnedN cs) p).testBit q = (cell cs q).testBit p := by
  rw [turned_cell hp, gather_bit]; simp [hq]
theorem cell_far {cs : List Nat} {p : Nat} (hp : cs.length ≤ p) : cell cs p = 0 := by
  unfold cell; rw [List.getD_eq_getElem?_getD, List.getElem?_eq_none hp]; rfl
theorem turned_codes {cs : List Nat} (hc : Codes cs) : Codes (turnedN cs) := by
  refine ⟨by rw [turned_len]; exact hc.1, by rw [turned_len]; exact hc.2.1, fun p => ?_⟩
  rw [turned_len]
  by_cases hp : p < cs.length
  · rw [turned_cell hp]; exact gather_lt _ _
  · rw [cell_far (by rw [turned_len]; omega)]; exact Nat.two_pow_pos _
theorem turned_space {cs : List Nat} (hs : spaceB cs = true) (hc : Codes cs) : spaceB (turnedN cs) = true := by
  refine space_iff.2 fun p hp => ?_
  rw [turned_len] at hp ⊢
  refine ⟨by rw [turned_bit hp hp]; exact (space_iff.1 hs p hp).1, fun q hq hb => ?_⟩
  rw [turned_bit hp hq] at hb
  refine sub_of (n := cs.length) (by rw [turned_cell hq]; exact gather_lt _ _) fun r hr h => ?_
  rw [turned_bit hq hr] at h
  rw [turned_bit hp hr]
  exact sub_iff.1 ((space_iff.1 hs r hr).2 q hq h) p hb
theorem list_ext_cell {a b : List Nat} (hl : a.length = b.length) (h : ∀ p, p < a.length → cell a p = cell b p) : a = b := by
  refine List.ext_getElem hl fun i h1 h2 => ?_
  have := h i h1
  unfold cell at this
  rw [List.getD_eq_getElem?_getD, List.getD_eq_getElem?_getD, List.getElem?_eq_getElem h1, List.getElem?_eq_getElem h2] at this
  exact this
theorem turned_twice {cs : List Nat} (hc : Codes cs) : turnedN (turnedN cs) = cs := by
  refine list_ext_cell (by rw [turned_len, turned_len]) fun p hp => ?_
  rw [turned_len, turned_len] at hp
  refine ext_bits (n := cs.length) ?_ (hc.2.2 p) fun i hi => ?_
  · have := (turned_codes (turned_codes hc)).2.2 p
    rwa [turned_len, turned_len] at this
  · rw [turned_bit (by rw [turned_len]; exact hp) (by rw [turned_len]; exact hi), turned_bit hi hp]
/-- the join of the cells of a set's points -/
def joinCells (cs : List Nat) (s : Nat) (n : Nat) : Nat := (List.range n).foldl (fun b p => if s.testBit p = true then b ||| cell cs p else b) 0
theorem joinCells_bit (cs : List Nat) (s i : Nat) : ∀ n, (joinCells cs s n).testBit i = true ↔ ∃ p, p < n ∧ s.testBit p = true ∧ (cell cs p).testBit i = true
  | 0 => by simp [joinCells]
  | n + 1 => by
    have ih := joinCells_bit cs s i n
    unfold joinCells at ih ⊢
    rw [List.range_succ, List.foldl_append, List.foldl_cons, List.foldl_nil]
    by_cases h : s.testBit n = true
    · rw [if_pos h, Nat.testBit_or, Bool.or_eq_true, ih]
      constructor
      · rintro (⟨p, h1, h2⟩ | h1)
        · exact ⟨p, by omega, h2⟩
        · exact ⟨n, by omega, h, h1⟩
      · rintro ⟨p, h1, h2, h3⟩
        by_cases e : p = n
        · subst e; exact .inr h3
        · exact .inl ⟨p, by omega, h2, h3⟩
    · rw [if_neg h, ih]
      constructor
      · rintro ⟨p, h1, h2⟩; exact ⟨p, by omega, h2⟩
      · rintro ⟨p, h1, h2, h3⟩
        by_cases e : p = n
        · subst e; exact absurd h2 h
        · exact ⟨p, by omega, h2, h3⟩
/-- closures are the joins of the turned space's cells -/
theorem closure_join {cs : List Nat} (hs : spaceB cs = true) (hc : Codes cs) (s : Nat) : closureN cs s = joinCells (turnedN cs) s cs.length := by
  refine Nat.eq_of_testBit_eq fun i => ?_
  rw [Bool.eq_iff_iff, joinCells_bit]
  by_cases hi : i < cs.length
  · rw [closure_bit hs hc hi]
    constructor
    · rintro ⟨q, h1, h2, h3⟩; exact ⟨q, h1, h3, by rw [turned_bit h1 hi]; exact h2⟩
    · rintro ⟨q, h1, h2, h3⟩; exact ⟨q, h1, by rw [turned_bit h1 hi] at h3; exact h3, h2⟩
  · rw [bit_big (closure_lt cs s) (by omega)]
    constructor
    · intro h; cases h
    · rintro ⟨q, h1, h2, h3⟩
      rw [turned_cell h1, gather_bit] at h3
      simp [hi] at h3
end Go.Proofs.YtfhcbaamibipcaaDoor
