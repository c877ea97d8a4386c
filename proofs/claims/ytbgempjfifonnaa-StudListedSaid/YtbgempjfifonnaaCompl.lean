/- Complete. -/
import Derived.Test.YtbgempjfifonnaaItem
import Derived.Test.YtbgempjfifonnaaROrd
set_option linter.unusedVariables false
set_option linter.unusedSimpArgs false
namespace Go.Proofs.Ytbgempjfifonnaa
open Go.RowKit Go.Shelf
attribute [local go_sem] Oper.semAt_some

/-- the first clear order with a beginning -/
def complL (xs : List Int) (n : Nat) : Option (List Int) := (clearsL n xs)[0]?
def complE (o : Option (List Int)) : Int := if o.isSome then 0 else 6
def complS (xs : List Int) (n : Int) : List Int × Int := if (withinB n 1 7 && decide ((xs.length : Int) ≤ n) && rowsB xs n) = true then ((complL xs n.toNat).getD [], complE (complL xs n.toNat)) else ([], 2)
theorem complS_no {xs : List Int} {n : Int} (h : rowsB xs n = false) : complS xs n = ([], 2) := by unfold complS; rw [h]; simp
theorem complS_ok {xs : List Int} {n : Nat} (h1 : withinB n 1 7 = true) (h2 : xs.length ≤ n) (h3 : rowsB xs n = true) : complS xs n = ((complL xs n).getD [], complE (complL xs n)) := by
  unfold complS; rw [h1, h3, decide_eq_true (by omega : (xs.length : Int) ≤ (n : Int))]; rfl
theorem rows_small {xs : List Int} {n : Nat} (hn : n ≤ 1000) (h : rowsB xs n = true) : ∀ j, 0 ≤ gi xs j ∧ gi xs j ≤ 1000 := fun j => by
  by_cases hj : j < xs.length
  · have := (rowsB_iff.1 h).1 j hj; omega
  · have : gi xs j = 0 := by simp [gi, List.getElem?_eq_none (Nat.le_of_not_lt hj)]
    omega

end Go.Proofs.Ytbgempjfifonnaa
