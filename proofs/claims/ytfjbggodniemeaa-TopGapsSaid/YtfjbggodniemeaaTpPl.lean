/- TopGaps: the plain law. -/
import Derived.Test.YtfjbggodniemeaaTpLgt
import Derived.Test.YtfjbggodniemeaaTpGap
set_option linter.unusedVariables false
set_option linter.unusedSimpArgs false
namespace Go.Proofs.Ytfjbggodniemeaa

def wordOf (s : List UInt8) : List UInt8 := s.map fun c => if c = 83 then 98 else 97
def wordG (n : Nat) : List UInt8 := wordOf (gapStr n)
def placeG (n : Nat) : Int := (idxRun rows1 (wordG n) n).1
theorem gaps5 : gapStr 5 = [76, 83, 76, 76, 83] := by decide +kernel
theorem word_len : ∀ n, n < 61 → (gapStr n).length = n := by decide +kernel
theorem word_ok : ∀ n, n < 61 → wordB (wordG n) = true ∧ avoidsB ss1 (wordG n) = true := by decide +kernel
theorem word_pre : ∀ n, n < 61 → wordG n = (wordG 60).take n := by decide +kernel
theorem idx_ok : ∀ n, n < 61 → ∀ k, k < n + 1 → (idxRun rows1 (wordG n) k).2 < 15 := by decide +kernel
theorem itm_ok : ∀ n, n < 61 → (0 ≤ placeG n ∧ placeG n ≤ gi (cntTo rows1 n) 0 - 1) ∧ (itmRun rows1 n (placeG n) n).2.1 = wordG n ∧ ∀ t, t < n + 1 → (itmRun rows1 n (placeG n) t).2.2 < 15 := by decide +kernel
/-- the different parts that begin before place i -/
def partsTo (w : List UInt8) (k : Nat) : Nat → List (List UInt8)
  | 0 => []
  | i + 1 => if (w.drop i).take k ∈ partsTo w k i then partsTo w k i else partsTo w k i ++ [(w.drop i).take k]
theorem parts60 : ∀ k, k < 61 → (partsTo (wordG 60) k (61 - k)).length ≤ k + 1 := by decide +kernel
theorem parts_mono (w : List UInt8) (k : Nat) : ∀ {j i : Nat}, i ≤ j → (partsTo w k i).length ≤ (partsTo w k j).length
  | 0, i, h => by rw [show i = 0 by omega]; exact Nat.le_refl _
  | j + 1, i, h => by
    by_cases e : i = j + 1
    · rw [e]; exact Nat.le_refl _
    · refine Nat.le_trans (parts_mono w k (j := j) (i := i) (by omega)) ?_
      rw [partsTo]
      split
      · exact Nat.le_refl _
      · simp
theorem parts_take (w : List UInt8) (k n : Nat) : ∀ i, i + k ≤ n + 1 → partsTo (w.take n) k i = partsTo w k i
  | 0, _ => rfl
  | i + 1, h => by
    rw [partsTo, partsTo, parts_take w k n i (by omega)]
    have e : ((w.take n).drop i).take k = (w.drop i).take k := by
      rw [List.drop_take, List.take_take, Nat.min_eq_left (by omega)]
    rw [e]
theorem parts_len (w : List UInt8) (k : Nat) : ∀ i, (partsTo w k i).length ≤ i
  | 0 => Nat.le_refl _
  | i + 1 => by
    rw [partsTo]
    have := parts_len w k i
    split
    · omega
    · simp; omega
theorem parts_few {n k : Nat} (hn : n < 61) (hk : k ≤ n) : (partsTo (wordG n) k (n - k + 1)).length ≤ k + 1 := by
  rw [word_pre n hn, parts_take (wordG 60) k n (n - k + 1) (by omega)]
  exact Nat.le_trans (parts_mono _ k (by omega)) (parts60 k (by omega))
end Go.Proofs.Ytfjbggodniemeaa
