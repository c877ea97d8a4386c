/- ply's reference: IsOpen. -/
import Derived.Test.YtiihnfcgffaabaaDoorPWc
set_option linter.unusedVariables false
set_option linter.unusedSimpArgs false
namespace Go.Proofs.YtiihnfcgffaabaaDoor
open Go.RowKit

def ofNats (cs : List Nat) : List Int := cs.map fun (c : Nat) => (c : Int)
theorem ofNats_len (cs : List Nat) : (ofNats cs).length = cs.length := by simp [ofNats]
theorem gi_nats (cs : List Nat) (p : Nat) : gi (ofNats cs) p = (cell cs p : Int) := by
  unfold gi ofNats cell
  rw [List.getD_eq_getElem?_getD, List.getD_eq_getElem?_getD, List.getElem?_map]
  cases cs[p]? <;> rfl
theorem cell_64 {cs : List Nat} (hc : Codes cs) (p : Nat) : cell cs p < 64 :=
  Nat.lt_of_lt_of_le (hc.2.2 p) (Nat.pow_le_pow_right (n := 2) (by omega) hc.2.1)

set_option maxRecDepth 100000 in
set_option maxHeartbeats 800000 in
theorem refIsOpen_any (v : Value) (cs : List Nat) (s : Nat) (w : World) (hr : Reads w v (ofNats cs)) (hc : Codes cs) (hs : s < 64) :
    Calls Tryd.prog 37 #[v, .int .i64 s] w fun e w' => e = .returned (.bool (openB cs s)) ∧ w = w' := by
  obtain ⟨a, cap, rfl, h1, h2, hcell⟩ := hr.open
  have hl6 := hc.2.1
  have HC := Lib.hid (cell_64 hc)
  have hlen := ofNats_len cs
  rw [hlen] at h1 hcell ⊢
  generalize hn : cs.length = n at *
  have HN := Lib.hid hn
  clear h2 hr hc hlen hn
  go_enter Tryd.func37, Tryd.ntmps37
  go_wp2_with fail
  go_loop [5] (fun i => ∃ k : Nat, k ≤ n ∧ i = .int .i64 k ∧ ∀ p, p < k → s.testBit p = true → subB (cell cs p) s = true) (fun i => n - (intOf i).toNat)
  case atStart => exact ⟨0, by omega, rfl, fun p hp => by omega⟩
  case round =>
    obtain ⟨k, hk, rfl, hdone⟩ := hrel
    have HD := Lib.hid hdone
    clear hdone
    by_cases hlt : k < n
    · obtain ⟨b, off, rfl, hb, hck⟩ := hcell k hlt
      rw [gi_nats] at hck
      have hc64 := HC.out k
      have k0 : (0 : Int) ≤ (k : Int) := by omega
      have k1 : (k : Int) < (n : Int) := by omega
      clear hcell
      rcases hbit : s.testBit k with _ | _
      · have HB := Lib.hid hbit
        clear hbit
        go_wp2_with fail
        refine (refHas_any s k _ hs (by omega)).mono ?_
        rintro e w' ⟨rfl, rfl⟩
        rw [HB.out]
        go_wp2_with fail
        go_round
        case rel => exact ⟨k + 1, by omega, by go_num, fun p hp hpb => by
          by_cases e : p = k
          · subst e; rw [HB.out] at hpb; cases hpb
          · exact HD.out p (by omega) hpb⟩
        case measure => simp [intOf]; omega
      · rcases hsub : subB (cell cs k) s with _ | _
        · have HB := Lib.hid hbit
          have HS := Lib.hid hsub
          clear hbit hsub
          go_wp2_with fail
          refine (refHas_any s k _ hs (by omega)).mono ?_
          rintro e w' ⟨rfl, rfl⟩
          rw [HB.out]
          go_wp2_with fail
          refine (refWithin_any (cell cs k) s _ hc64 hs).mono ?_
          rintro e w' ⟨rfl, rfl⟩
          rw [HS.out]
          go_wp2_with fail
          go_ret
          refine ⟨ret_bool ?_, rfl⟩
          symm
          rcases ho : openB cs s with _ | _
          · rfl
          · have := open_iff.1 ho k (by rw [HN.out]; exact hlt) HB.out
            rw [HS.out] at this; cases this
        · have HB := Lib.hid hbit
          have HS := Lib.hid hsub
          clear hbit hsub
          go_wp2_with fail
          refine (refHas_any s k _ hs (by omega)).mono ?_
          rintro e w' ⟨rfl, rfl⟩
          rw [HB.out]
          go_wp2_with fail
          refine (refWithin_any (cell cs k) s _ hc64 hs).mono ?_
          rintro e w' ⟨rfl, rfl⟩
          rw [HS.out]
          go_wp2_with fail
          go_round
          case rel => exact ⟨k + 1, by omega, by go_num, fun p hp hpb => by
            by_cases e : p = k
            · subst e; exact HS.out
            · exact HD.out p (by omega) hpb⟩
          case measure => simp [intOf]; omega
    · obtain rfl : k = n := by omega
      have HO : Hid (openB cs s = true) := Lib.hid (open_iff.2 fun p hp hb => HD.out p (by rw [← HN.out]; exact hp) hb)
      clear hcell
      go_wp2_with fail
      go_ret
      exact ⟨ret_bool HO.out.symm, rfl⟩
end Go.Proofs.YtiihnfcgffaabaaDoor
