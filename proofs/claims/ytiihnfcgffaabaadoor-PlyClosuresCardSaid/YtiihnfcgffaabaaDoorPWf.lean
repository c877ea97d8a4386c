/- ply's reference: Inside. -/
import Derived.Test.YtiihnfcgffaabaaDoorPWe
set_option linter.unusedVariables false
set_option linter.unusedSimpArgs false
namespace Go.Proofs.YtiihnfcgffaabaaDoor
open Go.RowKit

theorem join_take (s : Nat) (L : List Nat) (k : Nat) (hk : k < L.length) : joinN s (L.take (k + 1)) = if subB (cell L k) s = true then joinN s (L.take k) ||| cell L k else joinN s (L.take k) := by
  unfold joinN cell
  rw [List.take_succ_eq_append_getElem hk, List.foldl_append, List.foldl_cons, List.foldl_nil, List.getD_eq_getElem?_getD, List.getElem?_eq_getElem hk]
  rfl
theorem opens_lt {cs : List Nat} (hc : Codes cs) (k : Nat) : cell (opensN cs) k < 64 := by
  unfold cell
  rw [List.getD_eq_getElem?_getD]
  by_cases hk : k < (opensN cs).length
  · rw [List.getElem?_eq_getElem hk]
    have hm : (opensN cs)[k] ∈ opensN cs := List.getElem_mem hk
    unfold opensN at hm
    rw [List.mem_filter, List.mem_range] at hm
    exact Nat.lt_of_lt_of_le hm.1 (Nat.pow_le_pow_right (n := 2) (by omega) hc.2.1)
  · rw [List.getElem?_eq_none (by omega)]; decide

set_option maxRecDepth 100000 in
set_option maxHeartbeats 1600000 in
theorem refInside_any (v : Value) (cs : List Nat) (s : Nat) (w : World) (hr : Reads w v (ofNats cs)) (hc : Codes cs) (hsp : spaceB cs = true) (hs : s < 64) :
    Calls Tryd.prog 13 #[v, .int .i64 s] w fun e w' => e = .returned (.int .i64 (insideN cs s : Nat)) ∧ Below w.heap.size w w' := by
  have HO := Lib.hid (opens_lt hc)
  have HI := Lib.hid (refInside_eq hsp hc s)
  have hr0 := hr
  obtain ⟨a, cap, rfl, _, _, _⟩ := hr.open
  clear hr
  go_enter Tryd.func13, Tryd.ntmps13
  go_wp2_with fail
  refine (refOpens_any _ cs _ hr0 hc).mono ?_
  rintro e w1 ⟨v1, rfl, hcol⟩
  have hb1 := hcol.below
  obtain ⟨b, cap1, rfl, g1, g2, hcell⟩ := hcol.reads.open
  have hlen := ofNats_len (opensN cs)
  rw [hlen] at hcell g1 ⊢
  generalize opensN cs = L at *
  obtain ⟨m, hm⟩ : ∃ m, L.length = m := ⟨_, rfl⟩
  have hmm : m ≤ 9223372036854775807 := by unfold maxLen at g2; omega
  rw [hm] at hcell g1 ⊢
  have HM := Lib.hid hm
  clear hcol hr0 hlen hm g2 hc hsp
  go_wp2_with fail
  go_loop [5, 7] (fun best i => ∃ k b : Nat, k ≤ m ∧ i = .int .i64 k ∧ best = .int .i64 b ∧ b < 64 ∧ joinN s (L.take k) = b) (fun _ i => m - (intOf i).toNat)
  case atStart => exact ⟨0, 0, by omega, rfl, rfl, by omega, rfl⟩
  case round =>
    obtain ⟨k, best, hk, rfl, rfl, hb64, hj⟩ := hrel
    have HJ := Lib.hid hj
    clear hj
    by_cases hlt : k < m
    · obtain ⟨b, off, rfl, hb, hck⟩ := hcell k hlt
      rw [gi_nats] at hck
      have hjt := join_take s L k (by rw [HM.out]; exact hlt)
      have hc64 := HO.out k
      generalize cell L k = c at *
      have k0 : (0 : Int) ≤ (k : Int) := by omega
      have k1 : (k : Int) < (m : Int) := by omega
      have hor := i64_or best c (by omega) (by omega)
      have HOR := Lib.hid (or_lt (k := 6) hb64 hc64)
      clear hcell
      rcases hsub : subB c s with _ | _
      · rw [hsub] at hjt
        have HJT := Lib.hid hjt
        have HS := Lib.hid hsub
        clear hjt hsub
        go_wp2_with fail
        refine (refWithin_any c s _ hc64 hs).mono ?_
        rintro e w' ⟨rfl, rfl⟩
        rw [HS.out]
        go_wp2_with fail
        refine ⟨⟨k + 1, best, by omega, by go_num, rfl, hb64, by rw [HJT.out]; exact HJ.out⟩, by simp [intOf]; omega⟩
      · rw [hsub, if_pos rfl] at hjt
        have HJT := Lib.hid hjt
        have HS := Lib.hid hsub
        clear hjt hsub
        go_wp2_with fail
        refine (refWithin_any c s _ hc64 hs).mono ?_
        rintro e w' ⟨rfl, rfl⟩
        rw [HS.out]
        go_wp2_with fail
        refine ⟨⟨k + 1, best ||| c, by omega, by go_num, rfl, HOR.out, by rw [HJT.out, HJ.out]⟩, by simp [intOf]; omega⟩
    · obtain rfl : k = m := by omega
      have HT : Hid (best = insideN cs s) := Lib.hid (by rw [← HJ.out, ← HI.out, ← HM.out, List.take_length])
      clear hcell
      go_wp2_with fail
      go_ret
      exact ⟨by rw [HT.out]; rfl, hb1⟩
end Go.Proofs.YtiihnfcgffaabaaDoor
