/- ply's reference: Opens. -/
import Derived.Test.YtiihnfcgffaabaaDoorPWd
set_option linter.unusedVariables false
set_option linter.unusedSimpArgs false
namespace Go.Proofs.YtiihnfcgffaabaaDoor
open Go.RowKit

def openTo (cs : List Nat) (k : Nat) : List Nat := (List.range k).filter fun s => openB cs s
theorem openTo_succ (cs : List Nat) (k : Nat) : ofNats (openTo cs (k + 1)) = ofNats (openTo cs k) ++ if openB cs k = true then [(k : Int)] else [] := by
  unfold openTo
  rw [List.range_succ, List.filter_append]
  by_cases h : openB cs k = true
  · simp [ofNats, h]
  · simp [ofNats, h]
theorem openTo_len (cs : List Nat) (k : Nat) : (ofNats (openTo cs k)).length ≤ k := by
  rw [ofNats_len]; unfold openTo
  have := List.length_filter_le (fun s => openB cs s) (List.range k)
  simpa using this

set_option maxRecDepth 100000 in
set_option maxHeartbeats 1600000 in
theorem refOpens_any (v : Value) (cs : List Nat) (w : World) (hr : Reads w v (ofNats cs)) (hc : Codes cs) :
    Calls Tryd.prog 24 #[v] w fun e w' => ∃ v', e = .returned v' ∧ Col w w' v' (ofNats (opensN cs)) := by
  have hr0 := hr
  obtain ⟨a, cap, rfl, _, _, _⟩ := hr.open
  have hlen := ofNats_len cs
  rw [hlen] at hr0 hr ⊢
  have hl1 := hc.1
  have hl6 := hc.2.1
  have HR := Lib.hid hr0
  have HC := Lib.hid hc
  obtain ⟨N, hN⟩ : ∃ N, 2 ^ cs.length = N := ⟨_, rfl⟩
  have hN64 : N ≤ 64 := by rw [← hN]; exact Nat.pow_le_pow_right (n := 2) (by omega) hl6
  have HN : Hid (openTo cs N = opensN cs) := Lib.hid (by rw [← hN]; rfl)
  have hsh : ((2 : Int) ^ cs.length) = (N : Int) := by rw [← hN]; push_cast; rfl
  generalize cs.length = n at *
  clear hr hr0 hc hlen hN
  go_enter Tryd.func24, Tryd.ntmps24
  go_wp2_with fail
  go_loopw [3, 4] (fun v i wr => ∃ k : Nat, k ≤ N ∧ i = .int .i64 k ∧ Col w wr v (ofNats (openTo cs k))) (fun _ i _ => N - (intOf i).toNat)
  case atStart => exact ⟨0, by omega, rfl, Col.nil _⟩
  case round =>
    obtain ⟨k, hk, rfl, hcol⟩ := hrel
    have HCOL := Lib.hid hcol
    clear hcol
    by_cases hlt : k < N
    · go_wp2_with fail
      refine (refIsOpen_any _ cs k _ (HR.out.below HCOL.out.below) HC.out (by omega)).mono ?_
      rintro e w1 ⟨rfl, rfl⟩
      have hst := openTo_succ cs k
      rcases hop : openB cs k with _ | _
      · rw [hop] at hst
        have HS := Lib.hid hst
        clear hst hop
        go_wp2_with fail
        go_roundw
        case rel => exact ⟨k + 1, by omega, by go_num, by rw [HS.out]; simpa using HCOL.out⟩
        case measure => simp [intOf]; omega
      · rw [hop, if_pos rfl] at hst
        have HS := Lib.hid hst
        have HL : Hid ((ofNats (openTo cs k)).length ≤ 1000000000) := Lib.hid (by have := openTo_len cs k; omega)
        clear hst hop
        go_wp2_with (at_builtin; refine append_int rfl _ _ rfl HCOL.out rfl _ rfl HL.out ?_; intro v' w' hcol' hne)
        go_roundw
        case rel => exact ⟨k + 1, by omega, by go_num, by rw [HS.out]; exact hcol'⟩
        case measure => simp [intOf]; omega
    · obtain rfl : k = N := by omega
      go_wp2_with fail
      go_ret
      exact ⟨_, rfl, by rw [← HN.out]; exact HCOL.out⟩
end Go.Proofs.YtiihnfcgffaabaaDoor
