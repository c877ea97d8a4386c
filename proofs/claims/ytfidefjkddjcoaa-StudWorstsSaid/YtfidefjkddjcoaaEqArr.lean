/- Arrays of integers held against each other. -/
import Derived.Test.YtfidefjkddjcoaaBase
import Derived.ChangeKeysEq
set_option linter.unusedVariables false
set_option linter.unusedSimpArgs false
namespace Go.Proofs.Ytfidefjkddjcoaa
open Go.RowKit

theorem run_equalIn_ints {q : IntKind} {e : TypeId} (hu : Try.prog.underlying e = some (.int q)) (d : Nat) (x y : Int) (w : World) : (Op.equalIn (d + 1) e (.int q x) (.int q y)).run Try.prog w = .ok (decide (x = y)) w := by
  unfold Op.equalIn
  simp only [Sem.run_bind, run_underlying hu, Result.andThen_ok]
  by_cases h : x = y
  · subst h; simp
  · simp [h]
theorem eqItems_ints {q : IntKind} {e : TypeId} (hu : Try.prog.underlying e = some (.int q)) (hp : Try.prog.plainKey e = true) (hc : Try.prog.cellsOf e = 1) (d : Nat) (xs ys : Array Value) (fx fy : Nat → Int) (w : World) :
    ∀ is : List Nat, (∀ i ∈ is, xs[i]? = some (.int q (fx i)) ∧ ys[i]? = some (.int q (fy i))) → (Op.eqItems (d + 1) e 1 xs ys is).run Try.prog w = .ok (decide (∀ i ∈ is, fx i = fy i)) w
  | [], _ => by simp [Op.eqItems]
  | i :: is, h => by
    obtain ⟨h1, h2⟩ := h i (by simp)
    have p1 : (part e xs (i * 1)).run Try.prog w = .ok (.int q (fx i)) w := by rw [Nat.mul_one]; exact run_part_plain w hp h1
    have p2 : (part e ys (i * 1)).run Try.prog w = .ok (.int q (fy i)) w := by rw [Nat.mul_one]; exact run_part_plain w hp h2
    have ih := eqItems_ints hu hp hc d xs ys fx fy w is (fun j hj => h j (by simp [hj]))
    simp only [Op.eqItems, Sem.run_bind, p1, p2, run_equalIn_ints hu, Result.andThen_ok]
    by_cases he : fx i = fy i
    · simp [he, ih]
    · simp [he]
/-- two arrays of integers are equal exactly if all places are -/
theorem equal_ints {q : IntKind} {t e : TypeId} {n : Nat} (ht : Try.prog.underlying t = some (.array n e)) (hi : (Try.prog.info? e).isSome = true) (hu : Try.prog.underlying e = some (.int q)) (hp : Try.prog.plainKey e = true) (hc : Try.prog.cellsOf e = 1)
    (xs ys : Array Value) (fx fy : Nat → Int) (h : ∀ i, i < n → xs[i]? = some (.int q (fx i)) ∧ ys[i]? = some (.int q (fy i))) (w : World) :
    (Op.equal t (.agg xs) (.agg ys)).run Try.prog w = .ok (decide (∀ i ∈ List.range n, fx i = fy i)) w := by
  obtain ⟨i, hi⟩ := Option.isSome_iff_exists.1 hi
  show (Op.equalIn (9999 + 1) t (.agg xs) (.agg ys)).run Try.prog w = _
  rw [run_equalIn_array w 9999 xs ys ht hi, hc]
  exact eqItems_ints hu hp hc 9998 xs ys fx fy w _ (fun i hi => h i (List.mem_range.1 hi))
theorem eq4 (a b c d a' b' c' d' : Int) (w : World) : (Op.equal 38 (.agg #[.int .i64 a, .int .i64 b, .int .i64 c, .int .i64 d]) (.agg #[.int .i64 a', .int .i64 b', .int .i64 c', .int .i64 d'])).run Try.prog w = .ok (decide (a = a' ∧ b = b' ∧ c = c' ∧ d = d')) w := by
  have h := equal_ints (q := .i64) (t := 38) (e := 3) Try.underlying38 (by kernel_rfl) Try.underlying3 (by kernel_rfl) (by kernel_rfl) #[.int .i64 a, .int .i64 b, .int .i64 c, .int .i64 d] #[.int .i64 a', .int .i64 b', .int .i64 c', .int .i64 d']
    (fun i => gi [a, b, c, d] i) (fun i => gi [a', b', c', d'] i) (fun i hi => by
      have : i = 0 ∨ i = 1 ∨ i = 2 ∨ i = 3 := by omega
      rcases this with rfl | rfl | rfl | rfl <;> exact ⟨rfl, rfl⟩) w
  have e : decide (∀ i ∈ List.range 4, gi [a, b, c, d] i = gi [a', b', c', d'] i) = decide (a = a' ∧ b = b' ∧ c = c' ∧ d = d') := by
    refine decide_eq_decide.2 ?_
    simp only [List.range_succ, List.range_zero, List.nil_append, List.cons_append, List.mem_cons, List.not_mem_nil, or_false, forall_eq_or_imp, forall_eq]
    exact Iff.rfl
  exact h.trans (by rw [e])
theorem neq4_same (a b c d : Int) (w : World) : (binOp .neq 38 (.agg #[.int .i64 a, .int .i64 b, .int .i64 c, .int .i64 d]) (.agg #[.int .i64 a, .int .i64 b, .int .i64 c, .int .i64 d])).run Try.prog w = .ok (.bool false) w := by
  have h := eq4 a b c d a b c d w
  unfold binOp
  go_simp
theorem eq2 (a b a' b' : Int) (w : World) : (Op.equal 24 (.agg #[.int .i64 a, .int .i64 b]) (.agg #[.int .i64 a', .int .i64 b'])).run Try.prog w = .ok (decide (a = a' ∧ b = b')) w := by
  have h := equal_ints (q := .i64) (t := 24) (e := 3) Try.underlying24 (by kernel_rfl) Try.underlying3 (by kernel_rfl) (by kernel_rfl) #[.int .i64 a, .int .i64 b] #[.int .i64 a', .int .i64 b']
    (fun i => gi [a, b] i) (fun i => gi [a', b'] i) (fun i hi => by
      have : i = 0 ∨ i = 1 := by omega
      rcases this with rfl | rfl <;> exact ⟨rfl, rfl⟩) w
  have e : decide (∀ i ∈ List.range 2, gi [a, b] i = gi [a', b'] i) = decide (a = a' ∧ b = b') := by
    refine decide_eq_decide.2 ?_
    simp only [List.range_succ, List.range_zero, List.nil_append, List.cons_append, List.mem_cons, List.not_mem_nil, or_false, forall_eq_or_imp, forall_eq]
    exact Iff.rfl
  exact h.trans (by rw [e])
theorem neq2_same (a b : Int) (w : World) : (binOp .neq 24 (.agg #[.int .i64 a, .int .i64 b]) (.agg #[.int .i64 a, .int .i64 b])).run Try.prog w = .ok (.bool false) w := by
  have h := eq2 a b a b w
  unfold binOp
  go_simp
end Go.Proofs.Ytfidefjkddjcoaa
