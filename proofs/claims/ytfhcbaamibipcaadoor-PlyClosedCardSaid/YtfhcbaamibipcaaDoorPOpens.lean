/- ply: Opens. -/
import Derived.Test.YtfhcbaamibipcaaDoorPApp
set_option linter.unusedVariables false
set_option linter.unusedSimpArgs false
namespace Go.Proofs.YtfhcbaamibipcaaDoor
open Go.RowKit

set_option maxRecDepth 100000 in
set_option maxHeartbeats 1600000 in
theorem Opens_yes (v : Value) (cs : List Nat) (w : World) (hr : Reads w v (ofNats cs)) (hc : Codes cs) (hsp : spaceB cs = true) (hT : Tab w) :
    Calls Tryd.prog 11 #[v] w fun e w' => ∃ v', e = .returned (.tuple #[v', .int .i64 0]) ∧ Col w w' v' (ofNats (opensN cs)) := by
  have hr0 := hr
  obtain ⟨a, cap, rfl, _, _, _⟩ := hr.open
  clear hr
  have hn6 := hc.2.1
  obtain ⟨N, hN⟩ : ∃ N, 2 ^ cs.length = N := ⟨_, rfl⟩
  have hN64 : N ≤ 64 := by rw [← hN]; exact Nat.pow_le_pow_right (n := 2) (by omega) hn6
  have HN : Hid (openTo cs N = opensN cs) := Lib.hid (by rw [← hN]; rfl)
  have hN1 : IntKind.u64.wrap ((allN cs.length : Nat) + 1 : Int) = (N : Int) := by
    have h1 : allN cs.length + 1 = N := by unfold allN; have := Nat.two_pow_pos cs.length; omega
    rw [show ((allN cs.length : Nat) + 1 : Int) = ((allN cs.length + 1 : Nat) : Int) by push_cast; rfl, h1]
    exact wrapU N (by omega)
  have HFIX : Hid (∀ k, k < N → (insideN cs k = k ↔ openB cs k = true)) := Lib.hid (fun k hk => inside_fix (by rw [hN]; exact hk))
  have HLT : Hid (∀ k, k < N → k < 2 ^ cs.length) := Lib.hid (fun k hk => by rw [hN]; exact hk)
  have HC := Lib.hid hc
  clear hN
  go_enter Tryd.func11, Tryd.ntmps11
  go_wp2_with fail
  refine (newSpace_yes _ cs _ hr0 hc hsp hT).mono ?_
  rintro e w1 ⟨rfl, hb1⟩
  obtain ⟨hs1, hb2⟩ := lay_sp hb1 cs.length (cell cs)
  go_wp2_with fail
  generalize hW : World.alloc w1 _ = W at *
  clear hW
  obtain ⟨d0, d1, d2, d3, d4, d5, d6⟩ := hs1.cells
  go_wp2_with fail
  refine (all_any cs _ hn6).mono ?_
  rintro e w2 ⟨rfl, hb3⟩
  have hs2 := hs1.below hb3
  have hb4 := below_to hb2 hb2.size hb3
  have hlt := hs1.lt
  generalize w1.heap.size = B1 at *
  clear hs1 d0 d1 d2 d3 d4 d5 d6 hb1 hb2 hb3 hr0
  go_wp2_with fail
  go_loopw [6, 18] (fun v i wr => ∃ k : Nat, k ≤ N ∧ i = .int .u64 k ∧ Col w wr v (ofNats (openTo cs k)) ∧ SpF wr B1 cs.length (cell cs)) (fun _ i _ => N - (intOf i).toNat)
  case atStart => exact ⟨0, by omega, rfl, ⟨World.ownsRow_nil _ _ _ _, hb4⟩, hs2⟩
  case round =>
    obtain ⟨k, hk, rfl, hcol, hsr⟩ := hrel
    have HCOL := Lib.hid hcol
    have HSR := Lib.hid hsr
    by_cases hlt2 : k < N
    · obtain ⟨d0, d1, d2, d3, d4, d5, d6⟩ := hsr.cells
      have k1 : (k : Int) < (N : Int) := by omega
      have hw1 : IntKind.u64.wrap ((k : Int) + 1) = ((k + 1 : Nat) : Int) := by
        rw [show ((k : Int) + 1) = ((k + 1 : Nat) : Int) by push_cast; rfl]
        exact wrapU (k + 1) (by omega)
      have hwi := wrapI k (by omega)
      have hst := openTo_succ cs k
      have hfx := HFIX.out k hlt2
      have hkn := HLT.out k hlt2
      clear hcol hsr
      rcases hop : openB cs k with _ | _
      · have hne : ¬ insideN cs k = k := fun e => by rw [hfx.1 e] at hop; cases hop
        have hne2 : ((insideN cs k : Int) == (k : Int)) = false := by
          rw [beq_eq_false_iff_ne]; intro e; apply hne; exact_mod_cast e
        rw [hop] at hst
        have HS := Lib.hid hst
        clear hst hop hfx hne
        go_wp2_with fail
        refine (inside_any cs k _ HC.out hkn (hT.below HCOL.out.below)).mono ?_
        rintro e w3 ⟨rfl, hb5⟩
        go_wp2_with fail
        go_roundw
        case rel => exact ⟨k + 1, by omega, by go_num, by rw [HS.out]; simpa using HCOL.out.step hb5, HSR.out.below hb5⟩
        case measure => simp [intOf]; omega
      · have heq : insideN cs k = k := hfx.2 hop
        rw [hop, if_pos rfl] at hst
        have HS := Lib.hid hst
        have HEQ := Lib.hid heq
        have HL : Hid ((ofNats (openTo cs k)).length ≤ 1000000000) := Lib.hid (by have := openTo_len cs k; omega)
        clear hst hop hfx heq
        go_wp2_with fail
        refine (inside_any cs k _ HC.out hkn (hT.below HCOL.out.below)).mono ?_
        rintro e w3 ⟨rfl, hb5⟩
        rw [HEQ.out]
        have HC3 := Lib.hid (HCOL.out.step hb5)
        have HS3 := Lib.hid (HSR.out.below hb5)
        go_wp2_with (at_builtin; refine append_intK rfl _ _ rfl HC3.out rfl _ rfl HL.out ?_; intro v' w' hcol' hne hkeep)
        go_roundw
        case rel => exact ⟨k + 1, by omega, by go_num, by rw [HS.out]; exact hcol', hkeep.sp HS3.out⟩
        case measure => simp [intOf]; omega
    · obtain rfl : k = N := by omega
      have k1 : ¬ (k : Int) < (k : Int) := by omega
      clear hcol hsr
      go_wp2_with fail
      go_ret2
      exact ⟨_, rfl, by rw [← HN.out]; exact HCOL.out⟩
set_option maxRecDepth 100000 in
theorem Opens_no (v : Value) (l : List Int) (w : World) (hr : Reads w v l) (h : spL l = false) (hT : Tab w) :
    Calls Tryd.prog 11 #[v] w fun e w' => e = .returned (.tuple #[.slice none 0 0, .int .i64 2]) ∧ Below w.heap.size w w' := by
  have hr0 := hr
  obtain ⟨a, cap, rfl, _, _, _⟩ := hr.open
  clear hr
  go_enter Tryd.func11, Tryd.ntmps11
  go_wp2_with fail
  refine (newSpace_no _ l _ hr0 h hT).mono ?_
  rintro e w1 ⟨n, c, rfl, hb1⟩
  obtain ⟨hs1, hb2⟩ := lay_sp hb1 n c
  go_wp2_with fail
  go_ret2
  exact ⟨rfl, hb2⟩
end Go.Proofs.YtfhcbaamibipcaaDoor
