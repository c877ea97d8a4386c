/- Two symmetries one after the other. -/
import Derived.Test.YtlgonmnbedddaaaRTurn
set_option linter.unusedVariables false
set_option linter.unusedSimpArgs false
namespace Go.Proofs.Ytlgonmnbedddaaa
open Go.RowKit

def revL (xs : List Int) : List Int := xs.reverse
def mirL (xs : List Int) : List Int := mirTo xs xs.length
theorem revL_len (xs : List Int) : (revL xs).length = xs.length := by simp [revL]
theorem mirL_len (xs : List Int) : (mirL xs).length = xs.length := mirTo_len (Nat.le_refl _)
theorem gi_revL {xs : List Int} {i : Nat} (hi : i < xs.length) : gi (revL xs) i = gi xs (xs.length - 1 - i) := gi_rev hi
theorem gi_mirL {xs : List Int} {i : Nat} (hi : i < xs.length) : gi (mirL xs) i = (xs.length : Int) - 1 - gi xs i := gi_mir hi
theorem rev_rev (xs : List Int) : revL (revL xs) = xs := by simp [revL]
theorem mir_mir (xs : List Int) : mirL (mirL xs) = xs := by
  refine list_ext_gi (by rw [mirL_len, mirL_len]) fun i hi => ?_
  rw [mirL_len, mirL_len] at hi
  rw [gi_mirL (by rw [mirL_len]; exact hi), gi_mirL hi, mirL_len]; omega
theorem mir_rev (xs : List Int) : mirL (revL xs) = revL (mirL xs) := by
  refine list_ext_gi (by rw [mirL_len, revL_len, revL_len, mirL_len]) fun i hi => ?_
  rw [mirL_len, revL_len] at hi
  rw [gi_mirL (by rw [revL_len]; exact hi), gi_revL hi, revL_len, gi_revL (by rw [mirL_len]; exact hi), mirL_len, gi_mirL (by omega)]
/-- where a number stands -/
theorem gi_exc_of {xs : List Int} (ho : ordB xs = true) {i j : Nat} (hi : i < xs.length) (hj : j < xs.length) (h : gi xs i = j) : gi (excL xs) j = i := by
  rw [gi_exc hj]
  obtain ⟨h1, h2⟩ := exc_spec ho hj
  by_cases hlt : xs.idxOf (j : Int) < i
  · exact absurd (h2.trans h.symm) (ordB_dist ho hlt hi)
  · by_cases hgt : i < xs.idxOf (j : Int)
    · exact absurd (h.trans h2.symm) (ordB_dist ho hgt h1)
    · omega
theorem ord_at {xs : List Int} (ho : ordB xs = true) {i : Nat} (hi : i < xs.length) : ∃ j : Nat, gi xs i = j ∧ j < xs.length := by
  have h := ordB_under ho i
  exact ⟨(gi xs i).toNat, by omega, by omega⟩
theorem exc_at {xs : List Int} (ho : ordB xs = true) {j : Nat} (hj : j < xs.length) : ∃ i : Nat, gi (excL xs) j = i ∧ i < xs.length ∧ gi xs i = j := by
  obtain ⟨h1, h2⟩ := exc_spec ho hj
  exact ⟨_, gi_exc hj, h1, h2⟩
theorem exc_exc {xs : List Int} (ho : ordB xs = true) : excL (excL xs) = xs := by
  refine list_ext_gi (by rw [excL_len, excL_len]) fun i hi => ?_
  rw [excL_len, excL_len] at hi
  obtain ⟨j, h1, h2⟩ := ord_at ho hi
  rw [h1]
  exact gi_exc_of (ord_exc ho) (by rw [excL_len]; exact h2) (by rw [excL_len]; exact hi) (gi_exc_of ho hi h2 h1)
theorem exc_rev {xs : List Int} (ho : ordB xs = true) : excL (revL xs) = mirL (excL xs) := by
  refine list_ext_gi (by rw [excL_len, revL_len, mirL_len, excL_len]) fun j hj => ?_
  rw [excL_len, revL_len] at hj
  obtain ⟨i, h1, h2, h3⟩ := exc_at ho hj
  rw [gi_mirL (by rw [excL_len]; exact hj), excL_len, h1]
  show gi (excL xs.reverse) j = _
  rw [gi_exc_of (i := xs.length - 1 - i) (ord_rev ho) (by rw [List.length_reverse]; omega) (by rw [List.length_reverse]; exact hj) (by rw [gi_rev (by omega), show xs.length - 1 - (xs.length - 1 - i) = i by omega]; exact h3)]
  omega
theorem exc_mir {xs : List Int} (ho : ordB xs = true) : excL (mirL xs) = revL (excL xs) := by
  refine list_ext_gi (by rw [excL_len, revL_len, mirL_len, excL_len]) fun j hj => ?_
  rw [excL_len, mirL_len] at hj
  have hj' : xs.length - 1 - j < xs.length := by omega
  obtain ⟨i, h1, h2, h3⟩ := exc_at ho hj'
  rw [gi_revL (by rw [excL_len]; exact hj), excL_len, h1]
  exact gi_exc_of (ord_mir ho) (by rw [mirTo_len (Nat.le_refl _)]; exact h2) (by rw [mirTo_len (Nat.le_refl _)]; exact hj) (by rw [gi_mir h2, h3]; omega)

theorem ordR {xs : List Int} (ho : ordB xs = true) : ordB (revL xs) = true := ord_rev ho
theorem ordM {xs : List Int} (ho : ordB xs = true) : ordB (mirL xs) = true := ord_mir ho

theorem turn0 (xs : List Int) : turnL xs 0 = xs := rfl
theorem turn1 (xs : List Int) : turnL xs 1 = revL xs := rfl
theorem turn2 (xs : List Int) : turnL xs 2 = mirL xs := rfl
theorem turn3 (xs : List Int) : turnL xs 3 = mirL (revL xs) := rfl
theorem turn4 (xs : List Int) : turnL xs 4 = excL xs := rfl
theorem turn5 (xs : List Int) : turnL xs 5 = excL (revL xs) := rfl
theorem turn6 (xs : List Int) : turnL xs 6 = excL (mirL xs) := rfl
theorem turn7 (xs : List Int) : turnL xs 7 = excL (mirL (revL xs)) := rfl
theorem turnL_ord {xs : List Int} (ho : ordB xs = true) (s : Nat) : ordB (turnL xs s) = true := ord_stage ho s 3
theorem turnL_len (xs : List Int) (s : Nat) : (turnL xs s).length = xs.length := len_stage xs s 3

/-- the symmetry that two make -/
def compS (s t : Nat) : Nat :=
  if s < 4 then s ^^^ t else (t ^^^ s) &&& 4 ||| ((t / 2 % 2) ^^^ (s % 2)) ||| (2 * ((t % 2) ^^^ (s / 2 % 2)))
theorem compS_lt : ∀ s, s < 8 → ∀ t, t < 8 → compS s t < 8 := by decide
theorem turn_two {xs : List Int} (ho : ordB xs = true) {s t : Nat} (hs : s < 8) (ht : t < 8) : turnL (turnL xs s) t = turnL xs (compS s t) := by
  have e1 : s = 0 ∨ s = 1 ∨ s = 2 ∨ s = 3 ∨ s = 4 ∨ s = 5 ∨ s = 6 ∨ s = 7 := by omega
  have e2 : t = 0 ∨ t = 1 ∨ t = 2 ∨ t = 3 ∨ t = 4 ∨ t = 5 ∨ t = 6 ∨ t = 7 := by omega
  rcases e1 with rfl | rfl | rfl | rfl | rfl | rfl | rfl | rfl <;> rcases e2 with rfl | rfl | rfl | rfl | rfl | rfl | rfl | rfl <;>
    simp (maxDischargeDepth := 8) only [compS, Nat.reduceLT, Nat.reduceXor, Nat.reduceAnd, Nat.reduceOr, Nat.reduceMul, Nat.reduceDiv, Nat.reduceMod, ↓reduceIte, turn0, turn1, turn2, turn3, turn4, turn5, turn6, turn7, rev_rev, mir_mir, mir_rev, exc_exc, exc_rev, exc_mir, ordR, ordM, ord_exc, ho]
def backS (s : Nat) : Nat := if s = 5 ∨ s = 6 then 11 - s else s
theorem comp_back : ∀ s, s < 8 → compS s (backS s) = 0 := by decide
theorem backS_lt : ∀ s, s < 8 → backS s < 8 := by decide
theorem turn_back {xs : List Int} (ho : ordB xs = true) {s : Nat} (hs : s < 8) : turnL (turnL xs s) (backS s) = xs := by
  rw [turn_two ho hs (backS_lt s hs), comp_back s hs]; rfl
end Go.Proofs.Ytlgonmnbedddaaa
