/- Roots answers the roots in rising order. -/
import Derived.Test.YtlabgemnkfgibaaWb
import Derived.Deep.RegionHeld3
import Derived.Deep.AppendLies
set_option linter.unusedVariables false
set_option linter.unusedSimpArgs false
namespace Go.Proofs.Ytlabgemnkfgibaa
open Go.RowKit


def rootsL (p : Int) (n : Nat) : List Int := ((List.range n).map fun (i : Nat) => (i : Int)).filter (rootB p)
theorem rootsL_succ (p : Int) (n : Nat) : rootsL p (n + 1) = rootsL p n ++ if rootB p n = true then [(n : Int)] else [] := by
  unfold rootsL
  rw [List.range_succ, List.map_append, List.filter_append]
  congr 1
  simp [List.filter_cons]
theorem rootsL_len (p : Int) (n : Nat) : (rootsL p n).length ≤ n := by
  unfold rootsL; exact Nat.le_trans (List.length_filter_le _ _) (by simp)

set_option maxHeartbeats 800000 in
theorem Roots_ok (p : Int) (w : World) (h1 : primeB p = true) : Calls Try.prog 5 #[.int .i64 p] w (RetInts w (rootsL p p.toNat) 0) := by
  obtain ⟨h3, h17⟩ := primeB_rng h1
  have H1 := Lib.hid h1
  clear h1
  go_enter Try.func5, Try.ntmps5
  go_wp2_with (go_at_call 13; refine (isPrime_any _ _ (by omega)).mono ?_; rintro e w' ⟨rfl, rfl⟩; rw [H1.out])
  go_loopw [4, 5, 10] (fun v _ i wr => ∃ k : Nat, (k : Int) ≤ p ∧ i = .int .i64 k ∧ Col w wr v (rootsL p k)) (fun _ _ i _ => (p - intOf i).toNat)
  case atStart => exact ⟨0, by omega, rfl, Col.nil _⟩
  case round =>
    obtain ⟨k, hk, rfl, hcol⟩ := hrel
    by_cases hlt2 : (k : Int) < p
    · have hL := rootsL_len p k
      by_cases hr : rootB p k = true
      · have HR := Lib.hid hr
        clear hr
        go_wp2_with (first
          | (go_at_call 14; refine (isRoot_any _ _ _ ⟨by omega, by omega⟩).mono ?_; rintro e w1 ⟨rfl, hb1⟩; rw [HR.out]; have hcol1 := hcol.step hb1)
          | (at_builtin; refine append_int rfl _ _ rfl hcol1 rfl _ rfl (by omega) ?_; intro v' w' hcol' hne))
        go_roundw
        case rel => exact ⟨k + 1, by omega, by go_num, by rw [rootsL_succ, if_pos HR.out]; exact hcol'⟩
        case measure => simp [intOf]; omega
      · have hr' : rootB p k = false := by simpa using hr
        have HR := Lib.hid hr'
        clear hr hr'
        go_wp2_with (first
          | (go_at_call 14; refine (isRoot_any _ _ _ ⟨by omega, by omega⟩).mono ?_; rintro e w1 ⟨rfl, hb1⟩; rw [HR.out]; have hcol1 := hcol.step hb1))
        go_roundw
        case rel => exact ⟨k + 1, by omega, by go_num, by rw [rootsL_succ, HR.out]; simpa using hcol1⟩
        case measure => simp [intOf]; omega
    · have hkp : p.toNat = k := by omega
      have HK := Lib.hid hkp
      clear hkp
      go_wp2
      go_ret2
      exact ⟨_, rfl, by rw [HK.out]; exact hcol⟩

theorem Roots_err (p : Int) (w : World) (wp : p ≤ 9223372036854775807) (h1 : primeB p = false) : Calls Try.prog 5 #[.int .i64 p] w (RetInts w [] 2) := by
  have H1 := Lib.hid h1
  clear h1
  go_enter Try.func5, Try.ntmps5
  go_wp2_with (go_at_call 13; refine (isPrime_any _ _ (by omega)).mono ?_; rintro e w' ⟨rfl, rfl⟩; rw [H1.out])
  go_ret2
  exact RetInts.err _ _
end Go.Proofs.Ytlabgemnkfgibaa
