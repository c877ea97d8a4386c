/- ply: what tame's second loop makes of any cells: those of a space. -/
import Derived.Test.YtfhcbaamibipcaaDoorChnLaw
set_option linter.unusedVariables false
set_option linter.unusedSimpArgs false
namespace Go.Proofs.YtfhcbaamibipcaaDoor

def wup (cs : List Nat) (k i : Nat) : Nat := if (cell cs i).testBit k = true then cell cs i ||| cell cs k else cell cs i
/-- the cells below i have the cell of k, if they have k -/
def warTo (cs : List Nat) (k i : Nat) : List Nat := (List.range cs.length).map fun j => if j < i then wup cs k j else cell cs j
theorem warTo_len (cs : List Nat) (k i : Nat) : (warTo cs k i).length = cs.length := by simp [warTo]
theorem cell_map_range (n : Nat) (f : Nat → Nat) (j : Nat) : cell ((List.range n).map f) j = if j < n then f j else 0 := by
  unfold cell
  by_cases h : j < n
  · rw [if_pos h]; simp [h]
  · rw [if_neg h]; simp only [List.getD_eq_getElem?_getD]; rw [List.getElem?_eq_none (by simp; omega)]; rfl
theorem warTo_cell (cs : List Nat) (k i j : Nat) : cell (warTo cs k i) j = if j < i ∧ j < cs.length then wup cs k j else cell cs j := by
  unfold warTo
  rw [cell_map_range]
  by_cases h1 : j < cs.length
  · by_cases h2 : j < i
    · rw [if_pos h1, if_pos h2, if_pos ⟨h2, h1⟩]
    · rw [if_pos h1, if_neg h2, if_neg (fun h => h2 h.1)]
  · rw [if_neg h1, if_neg (fun h => h1 h.2), cell_far (by omega)]
theorem wup_self (cs : List Nat) (k : Nat) : wup cs k k = cell cs k := by
  unfold wup; split
  · exact Nat.or_self _
  · rfl
theorem warTo_zero (cs : List Nat) (k : Nat) : ∀ j, cell (warTo cs k 0) j = cell cs j := fun j => by rw [warTo_cell, if_neg (fun h => by omega)]
theorem warTo_k (cs : List Nat) (k i : Nat) : cell (warTo cs k i) k = cell cs k := by
  rw [warTo_cell]; split
  · exact wup_self cs k
  · rfl
theorem warTo_i (cs : List Nat) (k i : Nat) : cell (warTo cs k i) i = cell cs i := by rw [warTo_cell, if_neg (fun h => by omega)]
theorem eq_of_cells {a b : List Nat} (hl : a.length = b.length) (h : ∀ j, cell a j = cell b j) : a = b := by
  refine List.ext_getElem hl fun j h1 h2 => ?_
  have := h j
  unfold cell at this
  simpa [List.getD_eq_getElem?_getD, h1, h2] using this
/-- one round more -/
theorem warTo_next (cs : List Nat) (k i : Nat) (hi : i < cs.length) : warTo cs k (i + 1) = (warTo cs k i).set i (wup cs k i) := by
  refine eq_of_cells (by simp [warTo_len]) fun j => ?_
  have hs : cell ((warTo cs k i).set i (wup cs k i)) j = if j = i then wup cs k i else cell (warTo cs k i) j := by
    unfold cell
    simp only [List.getD_eq_getElem?_getD, List.getElem?_set]
    by_cases h : i = j
    · subst h; simp [warTo_len, hi]
    · rw [if_neg h, if_neg (Ne.symm h)]
  rw [hs, warTo_cell, warTo_cell]
  by_cases h : j = i
  · subst h; rw [if_pos ⟨by omega, hi⟩, if_pos rfl]
  · rw [if_neg h]
    by_cases h2 : j < i ∧ j < cs.length
    · rw [if_pos h2, if_pos ⟨by omega, h2.2⟩]
    · rw [if_neg h2, if_neg (fun h3 => h2 ⟨by omega, h3.2⟩)]
theorem warTo_same (cs : List Nat) (k i : Nat) (h : (cell cs i).testBit k = false) : warTo cs k (i + 1) = warTo cs k i := by
  refine eq_of_cells (by simp [warTo_len]) fun j => ?_
  rw [warTo_cell, warTo_cell]
  by_cases e : j = i
  · subst e
    rw [if_neg (fun h => by omega : ¬ (j < j ∧ j < cs.length))]
    split
    · unfold wup; rw [h]; rfl
    · rfl
  · by_cases h2 : j < i ∧ j < cs.length
    · rw [if_pos h2, if_pos ⟨by omega, h2.2⟩]
    · rw [if_neg h2, if_neg (fun h3 => h2 ⟨by omega, h3.2⟩)]

structure Warm (n k : Nat) (plain : Bool) (cs : List Nat) : Prop where
  len : cs.length = n
  lt : ∀ j, cell cs j < 2 ^ n
  self : ∀ j, j < n → (cell cs j).testBit j = true
  low : plain = true → ∀ i j, i < n → (cell cs i).testBit j = true → j ≤ i
  trans : ∀ m, m < k → ∀ i j, i < n → m < n → (cell cs i).testBit m = true → (cell cs m).testBit j = true → (cell cs i).testBit j = true
theorem wup_bit (cs : List Nat) (k i j : Nat) : (wup cs k i).testBit j = true ↔ (cell cs i).testBit j = true ∨ ((cell cs i).testBit k = true ∧ (cell cs k).testBit j = true) := by
  unfold wup
  by_cases h : (cell cs i).testBit k = true
  · rw [if_pos h, Nat.testBit_or, Bool.or_eq_true]; simp [h]
  · rw [if_neg h]; simp [h]
theorem Warm.next {n k : Nat} {plain : Bool} {cs : List Nat} (h : Warm n k plain cs) (hk : k < n) : Warm n (k + 1) plain (warTo cs k n) := by
  have hcell : ∀ j, j < n → cell (warTo cs k n) j = wup cs k j := fun j hj => by rw [warTo_cell, if_pos ⟨hj, by rw [h.len]; exact hj⟩]
  refine ⟨by rw [warTo_len]; exact h.len, fun j => ?_, fun j hj => ?_, fun hp i j hi hb => ?_, fun m hm i j hi hmn h1 h2 => ?_⟩
  · rw [warTo_cell]; split
    · unfold wup; split
      · exact or_lt (h.lt j) (h.lt k)
      · exact h.lt j
    · exact h.lt j
  · rw [hcell j hj, wup_bit]; exact .inl (h.self j hj)
  · rw [hcell i hi, wup_bit] at hb
    rcases hb with hb | ⟨h3, h4⟩
    · exact h.low hp i j hi hb
    · exact Nat.le_trans (h.low hp k j hk h4) (h.low hp i k hi h3)
  · rw [hcell i hi, wup_bit] at h1 ⊢
    rw [hcell m hmn, wup_bit] at h2
    by_cases e : m = k
    · subst e
      have ha : (cell cs i).testBit m = true := h1.elim id (fun x => x.1)
      have hb : (cell cs m).testBit j = true := h2.elim id (fun x => x.2)
      exact .inr ⟨ha, hb⟩
    · have hmk : m < k := by omega
      rcases h1 with h1 | ⟨h3, h4⟩ <;> rcases h2 with h2 | ⟨h5, h6⟩
      · exact .inl (h.trans m hmk i j hi hmn h1 h2)
      · exact .inr ⟨h.trans m hmk i k hi hmn h1 h5, h6⟩
      · exact .inr ⟨h3, h.trans m hmk k j hk hmn h4 h2⟩
      · exact .inr ⟨h3, h6⟩
theorem Warm.space {n : Nat} {plain : Bool} {cs : List Nat} (h : Warm n n plain cs) : spaceB cs = true := space_iff.2 fun p hp => by
  have hpn : p < n := by rw [← h.len]; exact hp
  refine ⟨h.self p hpn, fun q hq hb => ?_⟩
  have hqn : q < n := by rw [← h.len]; exact hq
  exact sub_iff.2 fun j hj => h.trans q hqn p j hpn hqn hb hj
theorem Warm.plain {n k : Nat} {cs : List Nat} (h : Warm n k true cs) : plainB cs = true := plain_iff.2 fun i j hi hj e => by
  have hin : i < n := by rw [← h.len]; exact hi
  have h1 := h.self i hin
  rw [← e] at h1
  have := h.low rfl j i (by omega) h1
  omega
theorem Warm.codes {n k : Nat} {plain : Bool} {cs : List Nat} (h : Warm n k plain cs) (h1 : 1 ≤ n) (h6 : n ≤ 6) : Codes cs := ⟨by rw [h.len]; exact h1, by rw [h.len]; exact h6, fun p => by rw [h.len]; exact h.lt p⟩
end Go.Proofs.YtfhcbaamibipcaaDoor
