/- ply: areCodes, newCells. -/
import Derived.Test.YtfhcbaamibipcaaDoorPSp
set_option linter.unusedVariables false
set_option linter.unusedSimpArgs false
namespace Go.Proofs.YtfhcbaamibipcaaDoor
open Go.RowKit

theorem codes1_any (n : Nat) (k : Int) (Bn : Nat) (w : World) (hn : n ≤ 6) (hB : w.heap[Bn]? = some (.cells #[.int .i64 n] 3)) :
    Calls Tryd.prog 29 #[.int .i64 k, .pointer (some ⟨Bn, 0, none⟩)] w fun e w' => e = .returned (.bool (!setB n k)) ∧ w = w' := by
  have c0 := cell_of hB (j := 0) rfl
  have e : n = 0 ∨ n = 1 ∨ n = 2 ∨ n = 3 ∨ n = 4 ∨ n = 5 ∨ n = 6 := by omega
  clear hB
  rcases e with rfl | rfl | rfl | rfl | rfl | rfl | rfl
  all_goals
    go_enter Tryd.func29, Tryd.ntmps29
    go_wp2_with fail
    refine (within_any _ _ _ _).mono ?_
    rintro e w' ⟨rfl, rfl⟩
    go_wp2_with fail
    go_ret
    refine ⟨ret_bool ?_, rfl⟩
    unfold withinB setB
    rw [Bool.eq_iff_iff]
    simp
    omega

/-- all numbers are codes of sets -/
def codesB (n : Nat) (l : List Int) : Bool := l.all fun k => setB n k
theorem codesB_iff {n : Nat} {l : List Int} : codesB n l = true ↔ ∀ k, k < l.length → setB n (gi l k) = true := by
  unfold codesB
  rw [List.all_eq_true]
  constructor
  · intro h k hk; exact h _ (gi_mem hk)
  · intro h x hx
    obtain ⟨k, hk, rfl⟩ := List.getElem_of_mem hx
    rw [← gi_lt hk]; exact h k hk

set_option maxRecDepth 100000 in
set_option maxHeartbeats 800000 in
theorem indexCodes_any (n : Nat) (v : Value) (l : List Int) (Bn : Nat) (w : World) (hn : n ≤ 6) (hr : Reads w v l) (hB : w.heap[Bn]? = some (.cells #[.int .i64 n] 3)) :
    Calls Tryd.prog 39 #[v, .func (.func 29) #[] #[.pointer (some ⟨Bn, 0, none⟩)]] w fun e w' => ∃ i : Int, e = .returned (.int .i64 i) ∧ decide (0 ≤ i) = (!codesB n l) ∧ w = w' := by
  obtain ⟨a, cap, rfl, h1, h2, hcell⟩ := hr.open
  have h3 : l.length ≤ 9223372036854775807 := by unfold maxLen at h2; omega
  have HB := Lib.hid hB
  obtain ⟨m, hm⟩ : ∃ m, l.length = m := ⟨_, rfl⟩
  rw [hm] at hcell h1 h3 ⊢
  have HM := Lib.hid hm
  clear hr h2 hB hm
  go_enter Tryd.func39, Tryd.ntmps39
  go_wp2_with fail
  go_loop [8] (fun i => ∃ k : Nat, k ≤ m ∧ i = .int .i64 k ∧ ∀ j, j < k → setB n (gi l j) = true) (fun i => m - (intOf i).toNat)
  case atStart => exact ⟨0, by omega, rfl, fun j hj => absurd hj (by omega)⟩
  case round =>
    obtain ⟨k, hk, rfl, hd⟩ := hrel
    have HD := Lib.hid hd
    clear hd
    by_cases hlt : k < m
    · obtain ⟨b, off, rfl, hb, hck⟩ := hcell k hlt
      have k0 : (0 : Int) ≤ (k : Int) := by omega
      have k1 : (k : Int) < (m : Int) := by omega
      clear hcell
      go_wp2_with fail
      refine (codes1_any n (gi l k) Bn _ hn HB.out).mono ?_
      rintro e w' ⟨rfl, rfl⟩
      rcases hs : setB n (gi l k) with _ | _
      · have HS := Lib.hid hs
        clear hs
        go_wp2_with fail
        go_ret
        refine ⟨_, rfl, ?_, rfl⟩
        rw [decide_eq_true (by omega)]
        rcases hc : codesB n l with _ | _
        · rfl
        · have := codesB_iff.1 hc k (by rw [HM.out]; exact hlt)
          rw [HS.out] at this; cases this
      · have HS := Lib.hid hs
        clear hs
        go_wp2_with fail
        go_round
        case rel => exact ⟨k + 1, by omega, by go_num, fun j hj => by
          by_cases e : j = k
          · subst e; exact HS.out
          · exact HD.out j (by omega)⟩
        case measure => simp [intOf]; omega
    · obtain rfl : k = m := by omega
      have HC : Hid (codesB n l = true) := Lib.hid (codesB_iff.2 fun j hj => HD.out j (by rw [← HM.out]; exact hj))
      clear hcell
      go_wp2_with fail
      go_ret
      exact ⟨_, rfl, by rw [HC.out]; rfl, rfl⟩
theorem containsCodes_any (n : Nat) (v : Value) (l : List Int) (Bn : Nat) (w : World) (hn : n ≤ 6) (hr : Reads w v l) (hB : w.heap[Bn]? = some (.cells #[.int .i64 n] 3)) :
    Calls Tryd.prog 28 #[v, .func (.func 29) #[] #[.pointer (some ⟨Bn, 0, none⟩)]] w fun e w' => e = .returned (.bool (!codesB n l)) ∧ w = w' := by
  obtain ⟨a, cap, rfl, _, _, _⟩ := hr.open
  go_enter Tryd.func28, Tryd.ntmps28
  go_wp2_with fail
  refine (indexCodes_any n _ l Bn _ hn hr hB).mono ?_
  rintro e w' ⟨i, rfl, hi, rfl⟩
  have HI := Lib.hid hi
  clear hi
  go_wp2_with fail
  go_ret
  exact ⟨ret_bool HI.out, rfl⟩
theorem areCodes_any (n : Nat) (v : Value) (l : List Int) (w : World) (hn : n ≤ 6) (hr : Reads w v l) :
    Calls Tryd.prog 17 #[.int .i64 n, v] w fun e w' => e = .returned (.bool (codesB n l)) ∧ Below w.heap.size w w' := by
  obtain ⟨a, cap, rfl, _, _, _⟩ := hr.open
  have HR := Lib.hid hr
  clear hr
  have hal : Below w.heap.size w (w.alloc (.cells #[.int .i64 n] 3)) := (Below.refl _ _).alloc (Nat.le_refl _) _
  go_enter Tryd.func17, Tryd.ntmps17
  go_wp2_with fail
  refine (containsCodes_any n _ l w.heap.size _ hn (HR.out.below hal) (heap_alloc_new _ _)).mono ?_
  rintro e w' ⟨rfl, rfl⟩
  go_wp2_with fail
  go_ret
  exact ⟨ret_bool (by cases codesB n l <;> rfl), hal⟩
end Go.Proofs.YtfhcbaamibipcaaDoor
