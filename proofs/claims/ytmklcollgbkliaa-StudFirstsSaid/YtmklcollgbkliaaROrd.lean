/- The reference's rows and Order. -/
import Derived.Test.YtmklcollgbkliaaOrd
set_option linter.unusedVariables false
set_option linter.unusedSimpArgs false
namespace Go.Proofs.Ytmklcollgbkliaa
open Go.RowKit

def rowsB (xs : List Int) (n : Int) : Bool := decide ((∀ x ∈ xs, 0 ≤ x ∧ x < n) ∧ xs.Nodup)
theorem rowsB_iff {xs : List Int} {n : Int} : rowsB xs n = true ↔ goodTo xs n xs.length := by
  simp only [rowsB, decide_eq_true_eq, goodTo, List.take_length]
  constructor
  · rintro ⟨h1, h2⟩; exact ⟨fun j hj => h1 _ (gi_mem hj), h2⟩
  · rintro ⟨h1, h2⟩
    refine ⟨fun x hx => ?_, h2⟩
    obtain ⟨j, hj, rfl⟩ := List.getElem_of_mem hx
    have := h1 j hj
    rwa [gi_lt hj] at this
theorem goodTo_le {xs : List Int} {n : Int} {k m : Nat} (h : goodTo xs n m) (hk : k ≤ m) : goodTo xs n k :=
  ⟨fun j hj => h.1 j (by omega), h.2.sublist (List.take_sublist_take_left hk)⟩
theorem rowsB_no {xs : List Int} {n : Int} {k : Nat} (hk : k ≤ xs.length) (h : ¬ goodTo xs n k) : rowsB xs n = false := by
  rcases hb : rowsB xs n with _ | _
  · rfl
  · exact absurd (goodTo_le (rowsB_iff.1 hb) hk) h

theorem notin_succ {xs : List Int} {k m : Nat} (hm : m < xs.length) (h : gi xs k ∉ xs.take m) (he : ¬ gi xs m = gi xs k) : gi xs k ∉ xs.take (m + 1) := by
  rw [mem_take_succ hm]; rintro (h1 | h1)
  · exact h h1
  · exact he h1

set_option maxRecDepth 100000 in
set_option maxHeartbeats 1600000 in
theorem rows_any (v : Value) (xs : List Int) (n : Int) (w : World) (hr : Reads w v xs) :
    Calls Try.prog 18 #[v, .int .i64 n] w fun e w' => e = .returned (.bool (rowsB xs n)) ∧ ∃ m, w' = w.drewN m := by
  obtain ⟨a, cap, rfl, h1, h2, hcell⟩ := hr.open
  have h3 : xs.length ≤ 9223372036854775807 := by unfold maxLen at h2; omega
  clear h2
  go_enter Try.func18, Try.ntmps18
  go_wp2_with fail
  go_loopw [5, 6] (fun i _ wr => ∃ k m : Nat, k ≤ xs.length ∧ i = .int .i64 k ∧ goodTo xs n k ∧ wr = w.drewN m) (fun i _ _ => xs.length - (intOf i).toNat)
  case atStart => exact ⟨0, 0, by omega, rfl, goodTo_zero _ _, rfl⟩
  case round =>
    obtain ⟨k, m, hk, rfl, hg, rfl⟩ := hrel
    have HG := Lib.hid hg
    clear hg
    by_cases hlt : k < xs.length
    · obtain ⟨b, off, rfl, hb, hc⟩ := hcell k hlt
      have hk0 : (0 : Int) ≤ (k : Int) := by omega
      have hk1 : (k : Int) < (xs.length : Int) := by omega
      have HC : Hid (∀ j, j < xs.length → ∃ b' off', some (⟨b, off, none⟩ : Addr) = some ⟨b', off', none⟩ ∧ b' < w.heap.size ∧ w.cell? ⟨b', off' + j, none⟩ = some (.int .i64 (gi xs j))) := Lib.hid hcell
      clear hcell
      by_cases hz : 0 ≤ gi xs k
      · have hz1 : decide (gi xs k < 0) = false := decide_eq_false (by omega)
        by_cases hn : gi xs k < n
        · have hd : decide (n ≤ gi xs k) = false := decide_eq_false (by omega)
          go_wp2_with fail
          go_loopw [6] (fun j wr => ∃ r m : Nat, r ≤ k ∧ j = .int .i64 r ∧ gi xs k ∉ xs.take r ∧ wr = w.drewN m) (fun j _ => k - (intOf j).toNat)
          case atStart => exact ⟨0, m, by omega, rfl, by simp, rfl⟩
          case round =>
            obtain ⟨r, m, hr1, rfl, hni, rfl⟩ := hrel
            have HNI := Lib.hid hni
            clear hni
            by_cases hrk : r < k
            · obtain ⟨b1, o1, he1, hb1, hc1⟩ := HC.out r (by omega)
              cases he1
              have hr0 : (0 : Int) ≤ (r : Int) := by omega
              have hr2 : (r : Int) < (xs.length : Int) := by omega
              have hr3 : (r : Int) < (k : Int) := by omega
              by_cases he : gi xs r = gi xs k
              · have he' : (gi xs r == gi xs k) = true := by simp [he]
                have HE := Lib.hid he
                clear he
                go_wp2_with fail
                go_quiet (fail)
                go_wp2_with fail
                go_ret
                refine ⟨ret_bool (rowsB_no (k := k + 1) (by omega) fun hgt => ?_).symm, _, by first | rfl | exact World.drewN_drewN ..⟩
                refine ((goodTo_succ hlt).1 hgt).2.2 ?_
                rw [← HE.out, gi_lt (by omega : r < xs.length)]
                rw [List.mem_take_iff_getElem]
                exact ⟨r, by omega, rfl⟩
              · have he' : (gi xs r == gi xs k) = false := by simp [he]
                have HE := Lib.hid he
                clear he
                go_wp2_with fail
                go_quiet (fail)
                go_wp2_with fail
                go_roundw
                case rel => exact ⟨r + 1, _, by omega, by go_num, notin_succ (by omega) HNI.out HE.out, rfl⟩
                case measure => simp [intOf]; omega
            · have hrk' : r = k := by omega
              have HRK := Lib.hid hrk'
              clear hrk'
              go_wp2_with fail
              go_roundw
              case rel => exact ⟨k + 1, m, by omega, by go_num, (goodTo_succ hlt).2 ⟨HG.out, ⟨hz, hn⟩, by have := HNI.out; rwa [HRK.out] at this⟩, rfl⟩
              case measure => simp [intOf]; omega
        · have hd : decide (n ≤ gi xs k) = true := decide_eq_true (by omega)
          go_wp2_with fail
          go_ret
          exact ⟨ret_bool (rowsB_no (k := k + 1) (by omega) fun hgt => by have := ((goodTo_succ hlt).1 hgt).2.1; omega).symm, _, rfl⟩
      · have hz1 : decide (gi xs k < 0) = true := decide_eq_true (by omega)
        go_wp2_with fail
        go_ret
        exact ⟨ret_bool (rowsB_no (k := k + 1) (by omega) fun hgt => by have := ((goodTo_succ hlt).1 hgt).2.1; omega).symm, _, rfl⟩
    · have hkl : k = xs.length := by omega
      have HK := Lib.hid hkl
      clear hkl hcell
      go_wp2_with fail
      go_ret
      exact ⟨ret_bool (by symm; rw [rowsB_iff]; have h9 := HG.out; rwa [HK.out] at h9), _, rfl⟩

theorem ordB_rows (xs : List Int) : ordB xs = (decide (1 ≤ (xs.length : Int)) && (decide ((xs.length : Int) ≤ 16) && rowsB xs xs.length)) := by
  rw [Bool.eq_iff_iff]
  simp only [ordB, rowsB, Bool.and_eq_true, decide_eq_true_eq]
  constructor
  · rintro ⟨h1, h2, h3, h4⟩; exact ⟨by omega, by omega, h3, h4⟩
  · rintro ⟨h1, h2, h3, h4⟩; exact ⟨by omega, by omega, h3, h4⟩

set_option maxRecDepth 100000 in
set_option maxHeartbeats 800000 in
theorem refOrder_any (v : Value) (xs : List Int) (w : World) (hr : Reads w v xs) :
    Calls Try.prog 6 #[v] w fun e w' => e = .returned (.bool (ordB xs)) ∧ ∃ m, w' = w.drewN m := by
  have hr0 := hr
  obtain ⟨a, cap, rfl, h1, h2, hcell⟩ := hr.open
  have h3 : xs.length ≤ 9223372036854775807 := by unfold maxLen at h2; omega
  clear h2 hcell hr
  by_cases h5 : 1 ≤ (xs.length : Int)
  · by_cases h6 : (xs.length : Int) ≤ 16
    · have e : rowsB xs xs.length = ordB xs := by rw [ordB_rows, decide_eq_true h5, decide_eq_true h6]; simp
      have HE := Lib.hid e
      clear e
      go_enter Try.func6, Try.ntmps6
      go_wp2_with (go_at_call 18; refine (rows_any _ _ _ _ hr0).mono ?_; rintro e w' ⟨rfl, m, rfl⟩; rw [HE.out])
      go_ret
      exact ⟨rfl, _, rfl⟩
    · have HE : Hid (ordB xs = false) := Lib.hid (by rw [ordB_rows, decide_eq_false h6]; simp)
      go_enter Try.func6, Try.ntmps6
      go_wp2_with fail
      go_ret
      exact ⟨ret_bool HE.out.symm, 0, rfl⟩
  · have HE : Hid (ordB xs = false) := Lib.hid (by rw [ordB_rows, decide_eq_false h5]; simp)
    go_enter Try.func6, Try.ntmps6
    go_wp2_with fail
    go_ret
    exact ⟨ret_bool HE.out.symm, 0, rfl⟩
end Go.Proofs.Ytmklcollgbkliaa
