/- StudMeets. -/
import Derived.Test.YtebiamdjoeogcaaRMeet
import Derived.Test.YtebiamdjoeogcaaMeetSum
import Derived.Test.YtebiamdjoeogcaaTame
import Derived.Test.YtebiamdjoeogcaaAwake
set_option linter.unusedVariables false
set_option linter.unusedSimpArgs false
namespace Go.Proofs.Ytebiamdjoeogcaa
open Go.RowKit

theorem run_max_l {P : Program} {ats : Array TypeId} {ty : TypeId} {a b : Int} (h : b ≤ a) (w : World) : (Builtin.max_ ats ty #[.int .i64 a, .int .i64 b]).run P w = .ok (.int .i64 a) w := by
  have h2 : ¬ b > a := by omega
  simp only [Builtin.max_, List.foldlM, Builtin.max2]
  rw [if_neg h2]; rfl
theorem run_max_r {P : Program} {ats : Array TypeId} {ty : TypeId} {a b : Int} (h : a ≤ b) (w : World) : (Builtin.max_ ats ty #[.int .i64 a, .int .i64 b]).run P w = .ok (.int .i64 b) w := by
  simp only [Builtin.max_, List.foldlM, Builtin.max2]
  by_cases h2 : b > a
  · rw [if_pos h2]; rfl
  · rw [if_neg h2]
    obtain rfl : a = b := by omega
    rfl

theorem meetS_ok {xs : List Int} (ho : ordB xs = true) (u v : Int) : meetS xs u v = ((meetN xs u v xs.length : Int), 0) := by unfold meetS; rw [ho]; rfl

set_option maxRecDepth 100000 in
set_option maxHeartbeats 3200000 in
theorem StudMeets_walk (x : Int) (sl : Value) (ls : List Int) (u v : Int) (w : World) (wx : -9223372036854775808 ≤ x ∧ x ≤ 9223372036854775807) (hr : Reads w sl ls) (hx : ∀ x ∈ ls, -9223372036854775808 ≤ x ∧ x ≤ 9223372036854775807) (hu : -9223372036854775808 ≤ u ∧ u ≤ 9223372036854775807) (hv : -9223372036854775808 ≤ v ∧ v ≤ 9223372036854775807) :
    Calls Try.prog 3 #[.int .i64 x, sl, .int .i64 u, .int .i64 v] w fun e w' => e = .returned (.bool true) ∧ Below w.heap.size w w' := by
  clear hx wx hu hv
  go_enter Try.func3, Try.ntmps3
  go_wp2_with fail
  refine (tame_any x _ ls 16 _ hr (by omega) (by omega)).mono ?_
  rintro e w1 ⟨l, xs, rfl, hne, hcol, ho, hl⟩
  obtain ⟨g, cap, rfl⟩ := hcol.some hne
  have hb := hcol.below
  have hr1 := hcol.reads
  obtain ⟨hl1, hl2⟩ := ordB_len ho
  obtain ⟨n, hn⟩ : ∃ n, xs.length = n := ⟨_, rfl⟩
  have hmu := modN_rng u (n := 2 * (n : Int) + 1) (by omega)
  have hmv := modN_rng v (n := 2 * (n : Int) + 1) (by omega)
  generalize hp : modN u (2 * (n : Int) + 1) = p at hmu
  generalize hq : modN v (2 * (n : Int) + 1) = q at hmv
  obtain ⟨hp1, hp2⟩ := hmu
  obtain ⟨hq1, hq2⟩ := hmv
  have hab : (p - n).natAbs ≤ xs.length := by omega
  have HA := Lib.hid hab
  have hMN := meetN_le xs (p - n) (q - n) xs.length
  have HO := Lib.hid ho
  have hop : meetN xs (-(p - n)) (-(q - n)) xs.length = meetN xs (p - n) (q - n) xs.length := meet_opp hab
  have HOP := Lib.hid hop
  have HP := Lib.hid hp
  have HQ := Lib.hid hq
  have HN := Lib.hid hn
  have HS := Lib.hid (meetS_ok ho)
  rw [hn] at hr1 hMN ⊢
  rw [hn] at hl hl1 hl2
  clear hcol hne ho hop hp hq hn hab hr
  have hn1 : (1 : Int) ≤ n := by omega
  have hn2 : (n : Int) ≤ 16 := by omega
  clear hl hl1 hl2
  go_wp2_with (first
    | (go_at_call 5; refine (mod_any _ _ _ (by omega) (by omega)).mono ?_; rintro e w' ⟨rfl, rfl⟩; (first | rw [HP.out] | rw [HQ.out])))
  have hU1 : -(n : Int) ≤ p - n := by omega
  have hU2 : p - n ≤ n := by omega
  have hV1 : -(n : Int) ≤ q - n := by omega
  have hV2 : q - n ≤ n := by omega
  clear hp1 hp2 hq1 hq2 HP HQ
  generalize p - (n : Int) = U at *
  generalize q - (n : Int) = V at *
  refine (Meeting_any _ xs _ _ _ hr1 ⟨by omega, by omega⟩).mono ?_
  rintro e w' ⟨rfl, rfl⟩
  rw [HS.out, HN.out]
  go_wp2_with fail
  refine (Meeting_any _ xs _ _ _ hr1 ⟨by omega, by omega⟩).mono ?_
  rintro e w' ⟨rfl, rfl⟩
  rw [HS.out, HOP.out, HN.out]
  go_wp2_with fail
  go_loop [14, 15] (fun s i => ∃ k : Nat, (k : Int) ≤ 2 * n + 1 ∧ i = .int .i64 (-(n : Int) + k) ∧ s = .int .i64 (below xs U (-(n : Int) + k))) (fun _ i => ((n : Int) + 1 - intOf i).toNat)
  case atStart => exact ⟨0, by omega, by simp, by have := below_zero HO.out U; rw [HN.out] at this; simp [this]⟩
  case round =>
    obtain ⟨k, hk, rfl, rfl⟩ := hrel
    have hbl := below_le xs U (-(n : Int) + k)
    have hml := meetN_le xs U (-(n : Int) + k) xs.length
    rw [HN.out] at hbl hml
    by_cases hlt : -(n : Int) + k ≤ n
    · have hsu := below_succ (w := -(n : Int) + k) HA.out
      rw [HN.out] at hsu
      have HSU := Lib.hid hsu
      clear hsu
      go_wp2_with (go_at_call 6; refine (Meeting_any _ xs _ _ _ hr1 ⟨by omega, by omega⟩).mono ?_; rintro e w' ⟨rfl, rfl⟩; rw [HS.out, HN.out])
      go_round
      case rel => exact ⟨k + 1, by omega, by go_num, by rw [show -(n : Int) + ((k + 1 : Nat) : Int) = -(n : Int) + k + 1 by omega, HSU.out]; go_num⟩
      case measure => simp [intOf]; omega
    · have hall := below_all HO.out U (w := -(n : Int) + k) (by rw [HN.out]; omega)
      rw [HN.out] at hall
      have HAB := HA.out
      rw [HN.out] at HAB
      have HALL : Hid ((below xs U (-(n : Int) + k) : Int) = (n : Int) - (U.natAbs : Int)) := Lib.hid (by omega)
      clear hall hbl
      rw [HALL.out]
      by_cases hs : 0 ≤ U
      · have hna : (n : Int) - (U.natAbs : Int) = n - U := by omega
        rw [hna]
        clear hna HAB hml
        have m1 : -U ≤ U := by omega
        have m2 : 0 ≤ (n : Int) - U := by omega
        have x1 : ∀ ats w, (Builtin.max_ ats 3 #[.int .i64 U, .int .i64 (-U)]).run Try.prog w = .ok (.int .i64 U) w := fun ats w => run_max_l m1 w
        have x2 : ∀ ats w, (Builtin.max_ ats 3 #[.int .i64 0, .int .i64 ((n : Int) - U)]).run Try.prog w = .ok (.int .i64 ((n : Int) - U)) w := fun ats w => run_max_r m2 w
        clear m1
        go_wp2_with (go_at_call 7; refine (awake_any _).mono ?_; rintro e w5 ⟨rfl, hb5⟩)
        go_ret
        exact ⟨rfl, hb.trans (hb5.mono hb.size)⟩
      · have hna : (n : Int) - (U.natAbs : Int) = n + U := by omega
        rw [hna]
        clear hna HAB hml
        have m1 : U ≤ -U := by omega
        have m2 : 0 ≤ (n : Int) + U := by omega
        have x1 : ∀ ats w, (Builtin.max_ ats 3 #[.int .i64 U, .int .i64 (-U)]).run Try.prog w = .ok (.int .i64 (-U)) w := fun ats w => run_max_r m1 w
        have x2 : ∀ ats w, (Builtin.max_ ats 3 #[.int .i64 0, .int .i64 ((n : Int) - -U)]).run Try.prog w = .ok (.int .i64 ((n : Int) + U)) w := fun ats w => by rw [Int.sub_neg]; exact run_max_r m2 w
        have x3 : ∀ ats w, (Builtin.max_ ats 3 #[.int .i64 0, .int .i64 ((n : Int) + U)]).run Try.prog w = .ok (.int .i64 ((n : Int) + U)) w := fun ats w => run_max_r m2 w
        clear m1
        go_wp2_with (go_at_call 7; refine (awake_any _).mono ?_; rintro e w5 ⟨rfl, hb5⟩)
        go_ret
        exact ⟨rfl, hb.trans (hb5.mono hb.size)⟩
end Go.Proofs.Ytebiamdjoeogcaa
