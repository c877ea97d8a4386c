/- The reference's Turn. -/
import Derived.Test.YtalaimhoammacaaTurned
set_option linter.unusedVariables false
set_option linter.unusedSimpArgs false
namespace Go.Proofs.Ytalaimhoammacaa
open Go.RowKit

def refE (xs : List Int) (b0 b1 : Bool) (i : Nat) : Int :=
  if b1 then (xs.length : Int) - 1 - (if b0 then gi xs (xs.length - 1 - i) else gi xs i) else (if b0 then gi xs (xs.length - 1 - i) else gi xs i)
def refTo (xs : List Int) (b0 b1 : Bool) (k : Nat) : List Int := (List.range k).map (refE xs b0 b1)
theorem refTo_succ (xs : List Int) (b0 b1 : Bool) (k : Nat) : refTo xs b0 b1 (k + 1) = refTo xs b0 b1 k ++ [refE xs b0 b1 k] := by simp [refTo, List.range_succ]
theorem refTo_len (xs : List Int) (b0 b1 : Bool) (k : Nat) : (refTo xs b0 b1 k).length = k := by simp [refTo]
theorem gi_refTo {xs : List Int} {b0 b1 : Bool} {k i : Nat} (h : i < k) : gi (refTo xs b0 b1 k) i = refE xs b0 b1 i := by
  rw [gi_lt (by rw [refTo_len]; exact h)]; simp [refTo]
theorem list_ext_gi {xs ys : List Int} (hl : xs.length = ys.length) (h : ∀ i, i < xs.length → gi xs i = gi ys i) : xs = ys := by
  refine List.ext_getElem hl fun i h1 h2 => ?_
  have := h i h1
  rwa [gi_lt h1, gi_lt h2] at this
theorem refTo_stage (xs : List Int) (s : Nat) : refTo xs (s.testBit 0) (s.testBit 1) xs.length = stage xs s 2 := by
  refine list_ext_gi (by rw [refTo_len, len_stage]) fun i hi => ?_
  rw [refTo_len] at hi
  rw [gi_refTo hi]
  unfold refE
  rcases h1 : s.testBit 1 with _ | _
  · rw [stage_no h1]
    rcases h0 : s.testBit 0 with _ | _
    · rw [stage_no h0]; rfl
    · rw [stage_yes h0]; simp only [stage, stageF]; rw [gi_rev hi]; rfl
  · rw [stage_yes h1]
    have hl := len_stage xs s 1
    simp only [stageF]
    rw [gi_mir (by rw [hl]; exact hi), hl]
    rcases h0 : s.testBit 0 with _ | _
    · rw [stage_no h0]; rfl
    · rw [stage_yes h0]; simp only [stage, stageF]; rw [gi_rev hi]; rfl
theorem refE_rng {xs : List Int} (ho : ordB xs = true) (b0 b1 : Bool) (i : Nat) : 0 ≤ refE xs b0 b1 i ∧ refE xs b0 b1 i < xs.length := by
  have h1 := ordB_under ho i
  have h2 := ordB_under ho (xs.length - 1 - i)
  unfold refE
  split <;> split <;> omega

end Go.Proofs.Ytalaimhoammacaa
