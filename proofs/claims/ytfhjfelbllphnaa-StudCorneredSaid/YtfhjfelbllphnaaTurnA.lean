/- The three symmetries: mirrored, exchanged. -/
import Derived.Test.YtfhjfelbllphnaaCloneO
import Derived.Test.YtfhjfelbllphnaaOrd
import Derived.Test.YtfhjfelbllphnaaMat
set_option linter.unusedVariables false
set_option linter.unusedSimpArgs false
namespace Go.Proofs.Ytfhjfelbllphnaa
open Go.RowKit

theorem ordB_under {xs : List Int} (h : ordB xs = true) : ∀ j, 0 ≤ gi xs j ∧ gi xs j ≤ (xs.length : Int) - 1 := by
  have hl := (ordB_len h).1
  simp only [ordB, decide_eq_true_eq] at h
  intro j
  by_cases hj : j < xs.length
  · have := h.2.2.1 _ (gi_mem hj); omega
  · have : gi xs j = 0 := by simp [gi, List.getElem?_eq_none (Nat.le_of_not_lt hj)]
    omega

def mirTo (xs : List Int) (k : Nat) : List Int := (xs.take k).map fun x => (xs.length : Int) - 1 - x
theorem mirTo_succ {xs : List Int} {k : Nat} (hk : k < xs.length) : mirTo xs (k + 1) = mirTo xs k ++ [(xs.length : Int) - 1 - gi xs k] := by
  unfold mirTo; rw [List.take_succ_eq_append_getElem hk, List.map_append, gi_lt hk]; rfl
theorem mirTo_len {xs : List Int} {k : Nat} (hk : k ≤ xs.length) : (mirTo xs k).length = k := by simp [mirTo, hk]

def excAt (xs : List Int) (k j : Nat) : Int := if (j : Int) ∈ xs.take k then (xs.idxOf (j : Int) : Nat) else 0
def excL (xs : List Int) : List Int := (List.range xs.length).map fun (j : Nat) => ((xs.idxOf (j : Int) : Nat) : Int)

theorem excAt_succ {xs : List Int} {k m : Nat} (hn : xs.Nodup) (hk : k < xs.length) (hm : gi xs k = m) (j : Nat) : (if j = m then (k : Int) else excAt xs k j) = excAt xs (k + 1) j := by
  unfold excAt
  simp only [mem_take_succ hk]
  by_cases e : j = m
  · subst e
    rw [if_pos rfl, if_pos (.inr hm)]
    rw [gi_lt hk] at hm
    rw [← hm]
    have := hn.idxOf_getElem k hk
    rw [this]
  · rw [if_neg e]
    by_cases h1 : (j : Int) ∈ xs.take k
    · rw [if_pos h1, if_pos (.inl h1)]
    · rw [if_neg h1, if_neg (by rintro (h | h); exact h1 h; rw [hm] at h; omega)]

/-- an order has every row -/
theorem perm_mem {xs : List Int} (ho : ordB xs = true) {j : Nat} (hj : j < xs.length) : (j : Int) ∈ xs := by
  simp only [ordB, decide_eq_true_eq] at ho
  obtain ⟨h1, h2, h3, h4⟩ := ho
  by_cases hm : (j : Int) ∈ xs
  · exact hm
  · exfalso
    have key : ∀ (n : Nat) (l : List Int), l.Nodup → (∀ x ∈ l, 0 ≤ x ∧ x < n) → l.length ≤ n := by
      intro n
      induction n with
      | zero => intro l _ hl; cases l with
        | nil => simp
        | cons x t => have := hl x (by simp); omega
      | succ n ih =>
        intro l hd hl
        have h5 := ih (l.filter (· != (n : Int))) (hd.sublist List.filter_sublist) (fun x hx => by
          rw [List.mem_filter] at hx
          have := hl x hx.1
          have h6 : x ≠ n := by simpa using hx.2
          omega)
        have h7 : (l.filter (· != (n : Int))).length + 1 ≥ l.length := by
          rw [← hd.erase_eq_filter]
          have := List.length_erase_le (a := (n : Int)) (l := l)
          have := List.le_length_erase (a := (n : Int)) (l := l)
          omega
        omega
    have h8 := key xs.length ((j : Int) :: xs) (List.nodup_cons.2 ⟨hm, h4⟩) (fun x hx => by
      rcases List.mem_cons.1 hx with rfl | h
      · omega
      · exact h3 x h)
    simp at h8; omega

end Go.Proofs.Ytfhjfelbllphnaa
