/- tread: counted. -/
import Derived.Test.YtfjbggodniemeaaTpCnt
set_option linter.unusedVariables false
set_option linter.unusedSimpArgs false
namespace Go.Proofs.Ytfjbggodniemeaa
open Go.RowKit

/-- a slice of rows none of which begins with a great number -/
def SmallRows (w : World) (v : Value) (N : Nat) : Prop := ∃ a cap, v = .slice a N cap ∧ ∀ k, k < N → ∃ g rv row, a = some ⟨g, 0, none⟩ ∧ w.cell? ⟨g, k, none⟩ = some rv ∧ Reads w rv row ∧ 0 < row.length ∧ gi row 0 ≤ 1152921504606846976
theorem counted1_any (rv : Value) (row : List Int) (w : World) (hr : Reads w rv row) (h0 : 0 < row.length) (hle : gi row 0 ≤ 1152921504606846976) :
    Calls Try.prog 26 #[rv] w fun e w' => e = .returned (.bool false) ∧ w = w' := by
  obtain ⟨a, cap, rfl, _, _, h3⟩ := hr
  obtain ⟨b, off, rfl, _, hc⟩ := h3.resolve_left (by intro e; rw [e] at h0; simp at h0)
  have c0 := hc 0 h0
  have i0 : (0 : Int) < (row.length : Int) := by omega
  have hle2 : ¬ gi row 0 > 1152921504606846976 := by omega
  have hle3 : ¬ (1152921504606846976 : Int) < gi row 0 := by omega
  rw [Nat.add_zero] at c0
  generalize gi row 0 = x at *
  clear hc h3
  go_enter Try.func26, Try.ntmps26
  go_wp2_with fail
  go_ret
  exact ⟨rfl, rfl⟩
theorem indexSmall_any (v : Value) (N : Nat) (w : World) (h : SmallRows w v N) (hN : N ≤ 1000000) :
    Calls Try.prog 36 #[v, .func (.func 26) #[] #[]] w fun e w' => e = .returned (.int .i64 (-1)) ∧ w = w' := by
  obtain ⟨a, cap, rfl, hc⟩ := h
  go_enter Try.func36, Try.ntmps36
  go_wp2_with fail
  go_loopw [8] (fun i W => ∃ k : Nat, k ≤ N ∧ i = .int .i64 k ∧ w = W) (fun i _ => N - (intOf i).toNat)
  case atStart => exact ⟨0, by omega, rfl, rfl⟩
  case round =>
    obtain ⟨k, hk, rfl, rfl⟩ := hrel
    by_cases hkn : k < N
    · obtain ⟨g, rv, row, rfl, h1, h2, h3, h4⟩ := hc k hkn
      have HX := Lib.hid (counted1_any rv row w h2 h3 h4)
      have k0 : (0 : Int) ≤ (k : Int) := by omega
      have k1 : (k : Int) < (N : Int) := by omega
      clear h2 hc
      go_wp2_with fail
      refine HX.out.mono ?_
      rintro e w' ⟨rfl, rfl⟩
      go_wp2_with fail
      go_roundw
      case rel => exact ⟨k + 1, by omega, by go_num, trivial⟩
      case measure => simp [intOf]; omega
    · have hkn2 : k = N := by omega
      subst hkn2
      clear hc
      go_wp2_with fail
      go_ret
      exact ⟨rfl, rfl⟩
theorem containsSmall_any (v : Value) (N : Nat) (w : World) (h : SmallRows w v N) (hN : N ≤ 1000000) :
    Calls Try.prog 25 #[v, .func (.func 26) #[] #[]] w fun e w' => e = .returned (.bool false) ∧ w = w' := by
  have HX := Lib.hid (indexSmall_any v N w h hN)
  obtain ⟨a, cap, rfl, hc⟩ := h
  clear hc
  go_enter Try.func25, Try.ntmps25
  go_wp2_with fail
  refine HX.out.mono ?_
  rintro e w' ⟨rfl, rfl⟩
  go_wp2_with fail
  go_ret
  exact ⟨rfl, rfl⟩
theorem counted_any (rows : List (List Int)) (P n : Nat) (w : World) (hM : MRd w P 15 rows) (hl : rows.length = 15) (hf : rowsFine rows = true) (hn : n ≤ 1000) (hs : ∀ k, k ≤ n → gi (cntTo rows k) 0 ≤ 1152921504606846976) :
    Calls Try.prog 15 #[.pointer (some ⟨P, 0, none⟩), .int .i64 n] w fun e w' => ∃ v', e = .returned (.tuple #[v', .int .i64 0]) ∧ MCol w w' v' (cntsTo rows (n + 1)) := by
  have HC := Lib.hid (counts_any rows P n w hM hl hf hn)
  have HS := Lib.hid hs
  have HL := Lib.hid hl
  clear hM hl hf hs
  go_enter Try.func15, Try.ntmps15
  go_wp2_with fail
  refine HC.out.mono ?_
  rintro e w' ⟨v', rfl, hm⟩
  have HM := Lib.hid hm
  obtain ⟨a, cap, hv, h1, h2, h3⟩ := hm.open
  rw [cntsTo_len] at hv h3
  subst hv
  have HX := Lib.hid (containsSmall_any (.slice a (n + 1) cap) (n + 1) w' ⟨a, cap, rfl, fun k hk => by
    obtain ⟨g, rv, e1, e2, e3, e4⟩ := h3 k hk
    rw [cntsTo_get hk] at e4
    exact ⟨g, rv, _, e1, e3, e4.reads, by rw [cntTo_len, HL.out]; omega, HS.out k (by omega)⟩⟩ (by omega))
  clear hm h3
  go_wp2_with fail
  refine HX.out.mono ?_
  rintro e w'' ⟨rfl, rfl⟩
  go_wp2_with fail
  go_ret2
  exact ⟨_, rfl, HM.out⟩
theorem rows1_small' : (List.range 61).all (fun k => decide (gi (cntTo rows1 k) 0 ≤ 1152921504606846976)) = true := by decide +kernel
theorem rows1_small {n : Nat} (hn : n ≤ 60) : ∀ k, k ≤ n → gi (cntTo rows1 k) 0 ≤ 1152921504606846976 := fun k hk => by
  have := List.all_eq_true.1 rows1_small' k (List.mem_range.2 (by omega))
  simpa using this
end Go.Proofs.Ytfjbggodniemeaa
