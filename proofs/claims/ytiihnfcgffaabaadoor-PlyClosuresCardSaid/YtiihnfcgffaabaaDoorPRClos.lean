/- ply's reference: Closure. -/
import Derived.Test.YtiihnfcgffaabaaDoorPWf
set_option linter.unusedVariables false
set_option linter.unusedSimpArgs false
namespace Go.Proofs.YtiihnfcgffaabaaDoor
open Go.RowKit

theorem meet_take (n s : Nat) (L : List Nat) (b k : Nat) (hk : k < L.length) : meetAll n s (L.take (k + 1)) b = if subB s (otherN n (cell L k)) = true then meetAll n s (L.take k) b &&& otherN n (cell L k) else meetAll n s (L.take k) b := by
  unfold meetAll cell
  rw [List.take_succ_eq_append_getElem hk, List.foldl_append, List.foldl_cons, List.foldl_nil, List.getD_eq_getElem?_getD, List.getElem?_eq_getElem hk]
  rfl
theorem opens_in {cs : List Nat} (k : Nat) : cell (opensN cs) k < 2 ^ cs.length := by
  unfold cell
  rw [List.getD_eq_getElem?_getD]
  by_cases hk : k < (opensN cs).length
  · rw [List.getElem?_eq_getElem hk]
    have hm : (opensN cs)[k] ∈ opensN cs := List.getElem_mem hk
    unfold opensN at hm
    rw [List.mem_filter, List.mem_range] at hm
    exact hm.1
  · rw [List.getElem?_eq_none (by omega)]; exact Nat.two_pow_pos _
theorem and_lt64 {a : Nat} (b : Nat) (h : a < 64) : a &&& b < 64 := Nat.lt_of_le_of_lt Nat.and_le_left h
set_option maxRecDepth 100000 in
set_option maxHeartbeats 1600000 in
theorem refClosure_any (v : Value) (cs : List Nat) (s : Nat) (w : World) (hr : Reads w v (ofNats cs)) (hc : Codes cs) (hsp : spaceB cs = true) (hs : s < 2 ^ cs.length) :
    Calls Tryd.prog 12 #[v, .int .i64 s] w fun e w' => e = .returned (.int .i64 (closureN cs s : Nat)) ∧ Below w.heap.size w w' := by
  have hs64 : s < 64 := Nat.lt_of_lt_of_le hs (Nat.pow_le_pow_right (n := 2) (by omega) hc.2.1)
  have HO := Lib.hid (fun k => opens_in (cs := cs) k)
  have HI := Lib.hid (refClosure_eq hsp hc hs)
  have HC := Lib.hid hc
  have hl6 := hc.2.1
  have hr0 := hr
  obtain ⟨a, cap, rfl, _, _, _⟩ := hr.open
  have hn0 := ofNats_len cs
  have hother : ∀ (w1 : World) (x : Nat), Below w.heap.size w w1 → x < 2 ^ cs.length → Calls Tryd.prog 26 #[.slice a (ofNats cs).length cap, .int .i64 x] w1 fun e w' => e = .returned (.int .i64 (otherN cs.length x : Nat)) ∧ w1 = w' := fun w1 x hb hx => by
    have := refOther_any _ (ofNats cs) x w1 (hr0.below hb) (by rw [hn0]; exact hl6) (by rw [hn0]; exact hx)
    rw [hn0] at this ⊢
    exact this
  have HOT := Lib.hid hother
  have hR := Lib.hid (hr0.below (Below.refl w.heap.size w))
  rw [hn0] at HOT hR ⊢
  have hall : wrap64 (wrap64 ((2 : Int) ^ cs.length) - 1) = (allN cs.length : Nat) := by
    have h : cs.length = 0 ∨ cs.length = 1 ∨ cs.length = 2 ∨ cs.length = 3 ∨ cs.length = 4 ∨ cs.length = 5 ∨ cs.length = 6 := by omega
    rcases h with h | h | h | h | h | h | h <;> (rw [h]; simp [wrap64, allN])
  have hall64 : allN cs.length < 64 := Nat.lt_of_lt_of_le (all_lt _) (Nat.pow_le_pow_right (n := 2) (by omega) hl6)
  have HALL := Lib.hid hall
  have hot64 : ∀ x, otherN cs.length x < 64 := fun x => Nat.lt_of_lt_of_le (other_lt _ _) (Nat.pow_le_pow_right (n := 2) (by omega) hl6)
  have HOT64 := Lib.hid hot64
  obtain ⟨A, hA⟩ : ∃ A, allN cs.length = A := ⟨_, rfl⟩
  rw [hA] at HI HALL hall64
  have hall2 := HALL.out
  have HA := Lib.hid hA
  clear hA
  generalize hn : cs.length = n at *
  clear hr hother hn0 hall hot64
  go_enter Tryd.func12, Tryd.ntmps12
  go_wp2_with fail
  refine (refOpens_any _ cs _ hR.out hc).mono ?_
  rintro e w1 ⟨v1, rfl, hcol⟩
  have hb1 := hcol.below
  obtain ⟨b, cap1, rfl, g1, g2, hcell⟩ := hcol.reads.open
  have hlen := ofNats_len (opensN cs)
  rw [hlen] at hcell g1 ⊢
  generalize opensN cs = L at *
  obtain ⟨m, hm⟩ : ∃ m, L.length = m := ⟨_, rfl⟩
  have hmm : m ≤ 9223372036854775807 := by unfold maxLen at g2; omega
  rw [hm] at hcell g1 ⊢
  have HM := Lib.hid hm
  clear hcol hlen hm g2 hc hsp
  go_wp2_with fail
  go_loop [5, 7] (fun best i => ∃ k b : Nat, k ≤ m ∧ i = .int .i64 k ∧ best = .int .i64 b ∧ b < 64 ∧ meetAll n s (L.take k) A = b) (fun _ i => m - (intOf i).toNat)
  case atStart => exact ⟨0, A, by omega, rfl, rfl, hall64, rfl⟩
  case round =>
    obtain ⟨k, best, hk, rfl, rfl, hb64, hj⟩ := hrel
    have HJ := Lib.hid hj
    clear hj
    by_cases hlt : k < m
    · obtain ⟨b, off, rfl, hb, hck⟩ := hcell k hlt
      rw [gi_nats] at hck
      have hjt := meet_take n s L A k (by rw [HM.out]; exact hlt)
      have hcn := HO.out k
      have hc64 := HOT64.out (cell L k)
      have hcall := HOT.out w1 (cell L k) hb1 hcn
      generalize cell L k = c at *
      generalize otherN n c = oc at *
      have k0 : (0 : Int) ≤ (k : Int) := by omega
      have k1 : (k : Int) < (m : Int) := by omega
      have hor := i64_and best oc (by omega) (by omega)
      have HOR := Lib.hid (and_lt64 oc hb64)
      have HCALL := Lib.hid hcall
      clear hcell hcall
      rcases hsub : subB s oc with _ | _
      · rw [hsub] at hjt
        have HJT := Lib.hid hjt
        have HS := Lib.hid hsub
        clear hjt hsub
        go_wp2_with fail
        refine HCALL.out.mono ?_
        rintro e w' ⟨rfl, rfl⟩
        go_wp2_with fail
        refine (refWithin_any s oc _ hs64 hc64).mono ?_
        rintro e w' ⟨rfl, rfl⟩
        rw [HS.out]
        go_wp2_with fail
        refine ⟨⟨k + 1, best, by omega, by go_num, rfl, hb64, by rw [HJT.out]; exact HJ.out⟩, by simp [intOf]; omega⟩
      · rw [hsub, if_pos rfl] at hjt
        have HJT := Lib.hid hjt
        have HS := Lib.hid hsub
        clear hjt hsub
        go_wp2_with fail
        refine HCALL.out.mono ?_
        rintro e w' ⟨rfl, rfl⟩
        go_wp2_with fail
        refine (refWithin_any s oc _ hs64 hc64).mono ?_
        rintro e w' ⟨rfl, rfl⟩
        rw [HS.out]
        go_wp2_with fail
        refine HCALL.out.mono ?_
        rintro e w' ⟨rfl, rfl⟩
        go_wp2_with fail
        refine ⟨⟨k + 1, best &&& oc, by omega, by go_num, rfl, HOR.out, by rw [HJT.out, HJ.out]⟩, by simp [intOf]; omega⟩
    · obtain rfl : k = m := by omega
      have HT : Hid (best = closureN cs s) := Lib.hid (by rw [← HJ.out, ← HI.out, ← HM.out, List.take_length])
      clear hcell
      go_wp2_with fail
      go_ret
      exact ⟨by rw [HT.out]; rfl, hb1⟩
end Go.Proofs.YtiihnfcgffaabaaDoor
