/- slices.Compare of two slices of ints of one length. -/
import Derived.Test.YtlgonmnbedddaaaAllLaw
import Derived.Test.YtlgonmnbedddaaaAwake
set_option linter.unusedVariables false
set_option linter.unusedSimpArgs false
namespace Go.Proofs.Ytlgonmnbedddaaa
open Go.RowKit

def cmpI (x y : Int) : Int := if x < y then -1 else if y < x then 1 else 0
theorem isNaN_any (x : Int) (w : World) : Calls Try.prog 48 #[.int .i64 x] w fun e w' => e = .returned (.bool false) ∧ w = w' := by
  have h : (x != x) = false := by simp
  go_enter Try.func48, Try.ntmps48
  go_wp2
  go_ret
  exact ⟨rfl, rfl⟩
theorem cmpInt_any (x y : Int) (w : World) : Calls Try.prog 39 #[.int .i64 x, .int .i64 y] w fun e w' => e = .returned (.int .i64 (cmpI x y)) ∧ w = w' := by
  unfold cmpI
  by_cases h1 : x < y
  · rw [if_pos h1]
    go_enter Try.func39, Try.ntmps39
    go_wp2_with (go_at_call 48; refine (isNaN_any _ _).mono ?_; rintro e w' ⟨rfl, rfl⟩)
    go_ret
    exact ⟨rfl, rfl⟩
  · rw [if_neg h1]
    by_cases h2 : y < x
    · rw [if_pos h2]
      go_enter Try.func39, Try.ntmps39
      go_wp2_with (go_at_call 48; refine (isNaN_any _ _).mono ?_; rintro e w' ⟨rfl, rfl⟩)
      go_ret
      exact ⟨rfl, rfl⟩
    · rw [if_neg h2]
      go_enter Try.func39, Try.ntmps39
      go_wp2_with (go_at_call 48; refine (isNaN_any _ _).mono ?_; rintro e w' ⟨rfl, rfl⟩)
      go_ret
      exact ⟨rfl, rfl⟩

/-- -1, 0 or 1 -/
def cmpL (xs ys : List Int) : Int := if ltB xs ys then -1 else if ltB ys xs then 1 else 0
theorem ltB_at {xs ys : List Int} {k : Nat} (h1 : k < xs.length) (h2 : k < ys.length) (ht : xs.take k = ys.take k) (hne : gi xs k ≠ gi ys k) : ltB xs ys = decide (gi xs k < gi ys k) := by
  have e1 : xs = xs.take k ++ (gi xs k :: xs.drop (k + 1)) := by rw [gi_lt h1]; simp
  have e2 : ys = xs.take k ++ (gi ys k :: ys.drop (k + 1)) := by rw [gi_lt h2, ht]; simp
  generalize gi xs k = x at *
  generalize gi ys k = y at *
  rw [e1, e2, ltB_append]
  simp only [ltB]
  rw [if_neg hne]
theorem cmpL_at {xs ys : List Int} {k : Nat} (h1 : k < xs.length) (h2 : k < ys.length) (ht : xs.take k = ys.take k) (hne : gi xs k ≠ gi ys k) : cmpL xs ys = cmpI (gi xs k) (gi ys k) := by
  unfold cmpL cmpI
  rw [ltB_at h1 h2 ht hne, ltB_at h2 h1 ht.symm (fun e => hne e.symm)]
  simp
theorem cmpL_same (xs : List Int) : cmpL xs xs = 0 := by unfold cmpL; rw [ltB_irrefl]; rfl
theorem cmpI_zero {x y : Int} : cmpI x y = 0 ↔ x = y := by unfold cmpI; split <;> (try split) <;> constructor <;> intro h <;> omega
theorem cmpL_pos {xs ys : List Int} : 0 < cmpL xs ys ↔ ltB ys xs = true := by
  unfold cmpL
  by_cases h1 : ltB xs ys = true
  · rw [if_pos h1, ltB_asymm h1]; simp
  · rw [if_neg h1]
    by_cases h2 : ltB ys xs = true
    · rw [if_pos h2, h2]; simp
    · rw [if_neg h2]; simp [h2]
theorem cmpL_neg {xs ys : List Int} : cmpL xs ys < 0 ↔ ltB xs ys = true := by
  unfold cmpL
  by_cases h1 : ltB xs ys = true
  · rw [if_pos h1, h1]; simp
  · rw [if_neg h1]
    by_cases h2 : ltB ys xs = true
    · rw [if_pos h2]; simp [h1]
    · rw [if_neg h2]; simp [h1]

end Go.Proofs.Ytlgonmnbedddaaa
