/- isOrder. -/
import Derived.Test.YtlgonmnbedddaaaWa
set_option linter.unusedVariables false
set_option linter.unusedSimpArgs false
namespace Go.Proofs.Ytlgonmnbedddaaa
open Go.RowKit

/-- the numbers are different ones from 0 to n - 1, as far as k -/
def goodTo (xs : List Int) (n : Int) (k : Nat) : Prop := (∀ j, j < k → 0 ≤ gi xs j ∧ gi xs j < n) ∧ (xs.take k).Nodup
def ordB (xs : List Int) : Bool := decide (1 ≤ xs.length ∧ xs.length ≤ 16 ∧ (∀ x ∈ xs, 0 ≤ x ∧ x < xs.length) ∧ xs.Nodup)

theorem gi_take {xs : List Int} {k j : Nat} (h : j < k) : gi (xs.take k) j = gi xs j := by
  unfold gi
  simp only [List.getD_eq_getElem?_getD]
  rw [List.getElem?_take, if_pos h]
theorem Reads.take {w : World} {a : Option Addr} {cap : Nat} {xs : List Int} {k : Nat} (h : Reads w (.slice a xs.length cap) xs) (hk : k ≤ xs.length) : Reads w (.slice a k cap) (xs.take k) := by
  obtain ⟨a', cap', he, h1, h2, h3⟩ := h
  cases he
  refine ⟨a, cap, by simp [hk], by simp; omega, h2, ?_⟩
  rcases h3 with rfl | ⟨b, off, rfl, hlt, hc⟩
  · exact .inl (by simp)
  · exact .inr ⟨b, off, rfl, hlt, fun j hj => by
      have hj' : j < k := by simp at hj; omega
      rw [gi_take hj']; exact hc j (by simp at hj; omega)⟩

theorem goodTo_zero (xs : List Int) (n : Int) : goodTo xs n 0 := ⟨by omega, by simp⟩
theorem goodTo_succ {xs : List Int} {n : Int} {k : Nat} (hk : k < xs.length) : goodTo xs n (k + 1) ↔ goodTo xs n k ∧ (0 ≤ gi xs k ∧ gi xs k < n) ∧ gi xs k ∉ xs.take k := by
  unfold goodTo
  rw [List.take_succ_eq_append_getElem hk, List.nodup_append, ← gi_lt hk]
  constructor
  · rintro ⟨h1, h2, _, h3⟩
    exact ⟨⟨fun j hj => h1 j (by omega), h2⟩, h1 k (by omega), fun hm => h3 _ hm _ (by simp) rfl⟩
  · rintro ⟨⟨h1, h2⟩, h3, h4⟩
    refine ⟨fun j hj => ?_, h2, by simp, fun x hx y hy => by simp at hy; subst hy; rintro rfl; exact h4 hx⟩
    by_cases e : j = k
    · subst e; exact h3
    · exact h1 j (by omega)
theorem ordB_of {xs : List Int} (h1 : 1 ≤ xs.length) (h2 : xs.length ≤ 16) (h : goodTo xs xs.length xs.length) : ordB xs = true := by
  simp only [ordB, decide_eq_true_eq]
  refine ⟨h1, h2, fun x hx => ?_, by have := h.2; rwa [List.take_length] at this⟩
  obtain ⟨j, hj, rfl⟩ := List.getElem_of_mem hx
  have := h.1 j hj
  rwa [gi_lt hj] at this
theorem goodTo_of {xs : List Int} (h : ordB xs = true) : ∀ k, k ≤ xs.length → goodTo xs xs.length k := by
  simp only [ordB, decide_eq_true_eq] at h
  intro k hk
  refine ⟨fun j hj => ?_, h.2.2.2.sublist (List.take_sublist _ _)⟩
  exact h.2.2.1 _ (gi_mem (by omega))
theorem ordB_len {xs : List Int} (h : ordB xs = true) : 1 ≤ xs.length ∧ xs.length ≤ 16 := by
  simp only [ordB, decide_eq_true_eq] at h; exact ⟨h.1, h.2.1⟩
theorem ordB_rng {xs : List Int} (h : ordB xs = true) : ∀ j, 0 ≤ gi xs j ∧ gi xs j ≤ 16 := by
  simp only [ordB, decide_eq_true_eq] at h
  intro j
  by_cases hj : j < xs.length
  · have := h.2.2.1 _ (gi_mem hj); omega
  · have : gi xs j = 0 := by simp [gi, List.getElem?_eq_none (Nat.le_of_not_lt hj)]
    omega

set_option maxHeartbeats 800000 in
theorem isOrder_any (v : Value) (xs : List Int) (w : World) (hr : Reads w v xs) :
    Calls Try.prog 16 #[v] w fun e w' => e = .returned (.bool (ordB xs)) ∧ w = w' := by
  obtain ⟨a, cap, rfl, h1, h2, hcell⟩ := hr.open
  have h3 : xs.length ≤ 9223372036854775807 := by unfold maxLen at h2; omega
  clear h2
  go_enter Try.func16, Try.ntmps16
  go_wp2_with fail
  go_loop [7] (fun i => ∃ k : Nat, k ≤ xs.length ∧ i = .int .i64 k ∧ goodTo xs xs.length k ∧ (k = 0 ∨ xs.length ≤ 16)) (fun i => xs.length - (intOf i).toNat)
  case atStart => exact ⟨0, Nat.zero_le _, rfl, goodTo_zero _ _, .inl rfl⟩
  case round =>
    obtain ⟨k, hk, rfl, hg, h16⟩ := hrel
    have HG := Lib.hid hg
    clear hg
    by_cases hlt : k < xs.length
    · obtain ⟨b, off, rfl, hb, hc⟩ := hcell k hlt
      clear hcell
      have hk0 : (0 : Int) ≤ (k : Int) := by omega
      by_cases hw : withinB (gi xs k) 0 ((xs.length : Int) - 1) = true
      · have HW := Lib.hid hw
        clear hw
        by_cases h17 : xs.length ≤ 16
        · have h17i : decide ((16 : Int) < (xs.length : Int)) = false := by simp; omega
          by_cases hm : gi xs k ∈ xs.take k
          · have HM : Hid (decide (gi xs k ∈ xs.take k) = true) := Lib.hid (by simpa using hm)
            have hm' := Lib.hid hm
            clear hm
            go_wp2_with (first
              | (go_at_call 17; refine (within_any _ _ _ _).mono ?_; rintro e w' ⟨rfl, rfl⟩; rw [HW.out])
              | (go_at_call 34; refine (contains_any _ (xs.take k) _ _ (hr.take hk)).mono ?_; rintro e w' ⟨rfl, rfl⟩; rw [HM.out]))
            go_ret
            refine ⟨ret_bool ?_, rfl⟩
            rcases ho : ordB xs with _ | _
            · rfl
            · exact absurd hm'.out ((goodTo_succ hlt).1 (goodTo_of ho (k + 1) hlt)).2.2
          · have HM : Hid (decide (gi xs k ∈ xs.take k) = false) := Lib.hid (by simpa using hm)
            have hm' := Lib.hid hm
            clear hm
            go_wp2_with (first
              | (go_at_call 17; refine (within_any _ _ _ _).mono ?_; rintro e w' ⟨rfl, rfl⟩; rw [HW.out])
              | (go_at_call 34; refine (contains_any _ (xs.take k) _ _ (hr.take hk)).mono ?_; rintro e w' ⟨rfl, rfl⟩; rw [HM.out]))
            go_round
            case rel => exact ⟨k + 1, by omega, by go_num, (goodTo_succ hlt).2 ⟨HG.out, by have := withinB_iff.1 HW.out; omega, hm'.out⟩, .inr h17⟩
            case measure => simp [intOf]; omega
        · have h17i : decide ((16 : Int) < (xs.length : Int)) = true := by simp; omega
          go_wp2_with (first
              | (go_at_call 17; refine (within_any _ _ _ _).mono ?_; rintro e w' ⟨rfl, rfl⟩; rw [HW.out]))
          go_ret
          refine ⟨ret_bool ?_, rfl⟩
          rcases ho : ordB xs with _ | _
          · rfl
          · have := (ordB_len ho).2; omega
      · have hw' : withinB (gi xs k) 0 ((xs.length : Int) - 1) = false := by simpa using hw
        have HW := Lib.hid hw'
        clear hw hw'
        go_wp2_with (first
              | (go_at_call 17; refine (within_any _ _ _ _).mono ?_; rintro e w' ⟨rfl, rfl⟩; rw [HW.out]))
        go_ret
        refine ⟨ret_bool ?_, rfl⟩
        rcases ho : ordB xs with _ | _
        · rfl
        · have h5 := ((goodTo_succ hlt).1 (goodTo_of ho (k + 1) hlt)).2.1
          have h6 : withinB (gi xs k) 0 ((xs.length : Int) - 1) = true := withinB_iff.2 ⟨h5.1, by omega⟩
          rw [HW.out] at h6; cases h6
    · have hkl : k = xs.length := by omega
      have HK := Lib.hid hkl
      clear hkl hcell
      go_wp2_with fail
      go_ret
      refine ⟨ret_bool ?_, rfl⟩
      rcases h16 with h0 | h17
      · have : xs.length = 0 := by have := HK.out; omega
        simp [ordB, this]
      · by_cases h0 : 1 ≤ xs.length
        · rw [ordB_of h0 h17 (by have h9 := HG.out; rw [HK.out] at h9; exact h9)]
          simp; omega
        · have : xs.length = 0 := by omega
          simp [ordB, this]
end Go.Proofs.Ytlgonmnbedddaaa
