/- Triangle: the differences of the rows for each distance. -/
import Derived.Test.YtalaimhoammacaaMat
import Derived.Test.YtalaimhoammacaaOrd
set_option linter.unusedVariables false
set_option linter.unusedSimpArgs false
namespace Go.Proofs.Ytalaimhoammacaa
open Go.RowKit

def triRow (xs : List Int) (d k : Nat) : List Int := (List.range k).map fun i => gi xs (d + i) - gi xs i
theorem triRow_succ (xs : List Int) (d k : Nat) : triRow xs d (k + 1) = triRow xs d k ++ [gi xs (d + k) - gi xs k] := by simp [triRow, List.range_succ]
theorem triRow_len (xs : List Int) (d k : Nat) : (triRow xs d k).length = k := by simp [triRow]
def triL (xs : List Int) (m : Nat) : List (List Int) := (List.range m).map fun d => triRow xs (d + 1) (xs.length - (d + 1))
theorem triL_succ (xs : List Int) (m : Nat) : triL xs (m + 1) = triL xs m ++ [triRow xs (m + 1) (xs.length - (m + 1))] := by simp [triL, List.range_succ]
theorem triL_len (xs : List Int) (m : Nat) : (triL xs m).length = m := by simp [triL]

/-- a slice of rows and a number behind it -/
def RetRows (w : World) (xss : List (List Int)) (err : Int) (e : Ending) (w' : World) : Prop := ∃ v, e = .returned (.tuple #[v, .int .i64 err]) ∧ MCol w w' v xss

def triS (xs : List Int) : List (List Int) × Int := if ordB xs then (triL xs (xs.length - 1), 0) else ([], 2)

end Go.Proofs.Ytalaimhoammacaa
