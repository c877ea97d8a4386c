/- Chains counted from below and from above: plain sums. -/
import Derived.Test.YtfhcbaamibipcaaDoorPlyLaw
set_option linter.unusedVariables false
set_option linter.unusedSimpArgs false
namespace Go.Proofs.YtfhcbaamibipcaaDoor

def sumTo (h : Nat → Int) : Nat → Int
  | 0 => 0
  | n + 1 => sumTo h n + h n
theorem sumTo_same {h k : Nat → Int} : ∀ n, (∀ i, i < n → h i = k i) → sumTo h n = sumTo k n
  | 0, _ => rfl
  | n + 1, e => by unfold sumTo; rw [sumTo_same n (fun i hi => e i (by omega)), e n (by omega)]
theorem sumTo_add (h k : Nat → Int) : ∀ n, sumTo (fun i => h i + k i) n = sumTo h n + sumTo k n
  | 0 => rfl
  | n + 1 => by unfold sumTo; rw [sumTo_add h k n]; omega
theorem sumTo_mul (c : Int) (h : Nat → Int) : ∀ n, sumTo (fun i => c * h i) n = c * sumTo h n
  | 0 => by simp [sumTo]
  | n + 1 => by unfold sumTo; rw [sumTo_mul c h n, Int.mul_add]
theorem sumTo_zero : ∀ n, sumTo (fun _ => 0) n = 0
  | 0 => rfl
  | n + 1 => by unfold sumTo; rw [sumTo_zero n]; rfl
theorem sumTo_swap (h : Nat → Nat → Int) (m : Nat) : ∀ n, sumTo (fun i => sumTo (fun j => h i j) m) n = sumTo (fun j => sumTo (fun i => h i j) n) m
  | 0 => by simp only [sumTo]; rw [sumTo_zero]
  | n + 1 => by
    show sumTo (fun i => sumTo (fun j => h i j) m) n + sumTo (fun j => h n j) m = _
    rw [sumTo_swap h m n, ← sumTo_add]
    rfl
/-- the sum over all points is the same from below and from above -/
theorem chains_dual (n : Nat) (A : Nat → Nat → Bool) (f g : Nat → Int) (hf : ∀ p, p < n → f p + sumTo (fun q => if A q p = true then f q else 0) n = 1)
    (hg : ∀ p, p < n → g p + sumTo (fun q => if A p q = true then g q else 0) n = 1) : sumTo f n = sumTo g n := by
  have e1 : sumTo g n = sumTo (fun p => g p * f p) n + sumTo (fun p => sumTo (fun q => if A q p = true then g p * f q else 0) n) n := by
    rw [← sumTo_add]
    refine sumTo_same n fun p hp => ?_
    have h := hf p hp
    have h2 : sumTo (fun q => if A q p = true then g p * f q else 0) n = g p * sumTo (fun q => if A q p = true then f q else 0) n := by
      rw [← sumTo_mul]
      refine sumTo_same n fun q _ => ?_
      by_cases ha : A q p = true
      · rw [if_pos ha, if_pos ha]
      · rw [if_neg ha, if_neg ha, Int.mul_zero]
    rw [h2, ← Int.mul_add, h, Int.mul_one]
  have e2 : sumTo f n = sumTo (fun q => f q * g q) n + sumTo (fun q => sumTo (fun p => if A q p = true then f q * g p else 0) n) n := by
    rw [← sumTo_add]
    refine sumTo_same n fun q hq => ?_
    have h := hg q hq
    have h2 : sumTo (fun p => if A q p = true then f q * g p else 0) n = f q * sumTo (fun p => if A q p = true then g p else 0) n := by
      rw [← sumTo_mul]
      refine sumTo_same n fun p _ => ?_
      by_cases ha : A q p = true
      · rw [if_pos ha, if_pos ha]
      · rw [if_neg ha, if_neg ha, Int.mul_zero]
    rw [h2, ← Int.mul_add, h, Int.mul_one]
  rw [e1, e2, sumTo_swap (fun p q => if A q p = true then g p * f q else 0) n n]
  have e3 : sumTo (fun p => g p * f p) n = sumTo (fun q => f q * g q) n := sumTo_same n fun p _ => Int.mul_comm _ _
  have e4 : sumTo (fun q => sumTo (fun p => if A q p = true then g p * f q else 0) n) n = sumTo (fun q => sumTo (fun p => if A q p = true then f q * g p else 0) n) n := sumTo_same n fun q _ => sumTo_same n fun p _ => by rw [Int.mul_comm]
  rw [e3, e4]
end Go.Proofs.YtfhcbaamibipcaaDoor
