/- ply: list, Turned, isPlain. -/
import Derived.Test.YtfhcbaamibipcaaDoorPTurn
import Derived.Test.YtfhcbaamibipcaaDoorChnLaw
set_option linter.unusedVariables false
set_option linter.unusedSimpArgs false
namespace Go.Proofs.YtfhcbaamibipcaaDoor
open Go.RowKit

theorem ofNats_take {cs : List Nat} {k : Nat} (hk : k < cs.length) : ofNats (cs.take (k + 1)) = ofNats (cs.take k) ++ [(cell cs k : Int)] := by
  unfold ofNats cell
  rw [List.take_succ_eq_append_getElem hk, List.map_append, List.getD_eq_getElem?_getD, List.getElem?_eq_getElem hk]
  rfl
/-! ### is a set among the cells so far -/
def amongB (c : Nat → Nat) (m s : Nat) : Bool := (List.range m).any fun k => decide (c k = s)
theorem among_iff {c : Nat → Nat} {m s : Nat} : amongB c m s = true ↔ ∃ k, k < m ∧ c k = s := by
  unfold amongB
  rw [List.any_eq_true]
  simp only [List.mem_range, decide_eq_true_eq]
set_option maxRecDepth 100000 in
set_option maxHeartbeats 800000 in
theorem indexSet_any (c : Nat → Nat) (m s B cap n : Nat) (w : World) (hm : m ≤ 6) (hs : SpF w B n c) :
    Calls Tryd.prog 40 #[.slice (some ⟨B, 1, none⟩) m cap, .int .u64 s] w fun e w' => ∃ i : Int, e = .returned (.int .i64 i) ∧ decide (0 ≤ i) = amongB c m s ∧ w = w' := by
  have HS := Lib.hid hs
  clear hs
  go_enter Tryd.func40, Tryd.ntmps40
  go_wp2_with fail
  go_loop [8] (fun i => ∃ k : Nat, k ≤ m ∧ i = .int .i64 k ∧ ∀ j, j < k → c j ≠ s) (fun i => m - (intOf i).toNat)
  case atStart => exact ⟨0, by omega, rfl, fun j hj => absurd hj (by omega)⟩
  case round =>
    obtain ⟨k, hk, rfl, hd⟩ := hrel
    have HD := Lib.hid hd
    clear hd
    by_cases hlt : k < m
    · have q1 := HS.out.cell (p := k) (by omega)
      have k0 : (0 : Int) ≤ (k : Int) := by omega
      have k1 : (k : Int) < (m : Int) := by omega
      by_cases he : c k = s
      · have he2 : ((s : Int) == (c k : Int)) = true := by simp [he]
        have HE := Lib.hid he
        clear he
        go_wp2_with fail
        go_ret
        refine ⟨_, rfl, ?_, rfl⟩
        rw [decide_eq_true (by omega)]
        exact (among_iff.2 ⟨k, hlt, HE.out⟩).symm
      · have he2 : ((s : Int) == (c k : Int)) = false := by
          rw [beq_eq_false_iff_ne]; intro e; apply he; omega
        have HE := Lib.hid he
        clear he
        go_wp2_with fail
        go_round
        case rel => exact ⟨k + 1, by omega, by go_num, fun j hj => by
          by_cases e : j = k
          · subst e; exact HE.out
          · exact HD.out j (by omega)⟩
        case measure => simp [intOf]; omega
    · have hkm : k = m := by omega
      have HA : Hid (amongB c m s = false) := Lib.hid (by
        rcases ha : amongB c m s with _ | _
        · rfl
        · obtain ⟨j, hj, e⟩ := among_iff.1 ha
          exact absurd e (HD.out j (by omega)))
      go_wp2_with fail
      go_ret
      exact ⟨_, rfl, by rw [HA.out]; rfl, rfl⟩
theorem containsSet_any (c : Nat → Nat) (m s B cap n : Nat) (w : World) (hm : m ≤ 6) (hs : SpF w B n c) :
    Calls Tryd.prog 31 #[.slice (some ⟨B, 1, none⟩) m cap, .int .u64 s] w fun e w' => e = .returned (.bool (amongB c m s)) ∧ w = w' := by
  go_enter Tryd.func31, Tryd.ntmps31
  go_wp2_with fail
  refine (indexSet_any c m s B cap n _ hm hs).mono ?_
  rintro e w' ⟨i, rfl, hi, rfl⟩
  have HI := Lib.hid hi
  clear hi
  go_wp2_with fail
  go_ret
  exact ⟨ret_bool HI.out, rfl⟩

set_option maxRecDepth 100000 in
set_option maxHeartbeats 1600000 in
theorem isPlain_any (cs : List Nat) (w : World) (hc : Codes cs) :
    Calls Tryd.prog 23 #[spV cs] w fun e w' => e = .returned (.bool (plainB cs)) ∧ Below w.heap.size w w' := by
  have hn6 := hc.2.1
  clear hc
  go_enter Tryd.func23, Tryd.ntmps23
  go_wp2_with fail
  generalize hW : World.alloc w _ = W
  have hs1 : SpF W w.heap.size cs.length (cell cs) := by rw [← hW]; exact heap_alloc_new _ _
  have hbw : Below w.heap.size w W := by rw [← hW]; exact (Below.refl _ _).alloc (Nat.le_refl _) _
  clear hW
  generalize hB : w.heap.size = B at *
  go_loopw [6] (fun i wr => ∃ k : Nat, k ≤ cs.length ∧ i = .int .i64 k ∧ (∀ p, p < k → amongB (cell cs) p (cell cs p) = false) ∧ SpF wr B cs.length (cell cs) ∧ Below B w wr) (fun i _ => cs.length - (intOf i).toNat)
  case atStart => exact ⟨0, by omega, rfl, fun p hp => absurd hp (by omega), hs1, hbw⟩
  case round =>
    obtain ⟨k, hk, rfl, hd, hsr, hbr⟩ := hrel
    have HD := Lib.hid hd
    have HBR := Lib.hid hbr
    clear hd hs1 hbw hbr
    by_cases hlt : k < cs.length
    · have q1 := hsr.cell (p := k) (by omega)
      have k0 : (0 : Int) ≤ (k : Int) := by omega
      have k00 : ¬ (k : Int) < 0 := by omega
      have k1 : (k : Int) < (cs.length : Int) := by omega
      have k6 : (k : Int) < 6 := by omega
      have k7 : (k : Int) ≤ 6 := by omega
      rcases ha : amongB (cell cs) k (cell cs k) with _ | _
      · have hcall : ∀ w0, SpF w0 B cs.length (cell cs) → Calls Tryd.prog 31 #[.slice (some ⟨B, 1, none⟩) k 6, .int .u64 (cell cs k)] w0 fun e w' => e = .returned (.bool false) ∧ w0 = w' := fun w0 h => by
          have := containsSet_any (cell cs) k (cell cs k) B 6 cs.length w0 (by omega) h
          rwa [ha] at this
        have HCALL := Lib.hid hcall
        have HA := Lib.hid ha
        have HSR := Lib.hid hsr
        clear hcall ha hsr
        go_wp2_with fail
        go_quiet ((go_at_call 31; exact (HCALL.out _ (HSR.out.drewN _)).mono (fun e w' h => ⟨h.1, _, h.2.symm⟩)))
        go_wp2_with fail
        go_roundw
        case rel => exact ⟨k + 1, by omega, by go_num, fun p hp => by
          by_cases e : p = k
          · subst e; exact HA.out
          · exact HD.out p (by omega), HSR.out.drewN _, below_to HBR.out (by rw [← hB]; exact (by subst hB; exact HBR.out.size)) (below_drewN _ _)⟩
        case measure => simp [intOf]; omega
      · have hcall : ∀ w0, SpF w0 B cs.length (cell cs) → Calls Tryd.prog 31 #[.slice (some ⟨B, 1, none⟩) k 6, .int .u64 (cell cs k)] w0 fun e w' => e = .returned (.bool true) ∧ w0 = w' := fun w0 h => by
          have := containsSet_any (cell cs) k (cell cs k) B 6 cs.length w0 (by omega) h
          rwa [ha] at this
        have hno : plainB cs = false := by
          rcases hp : plainB cs with _ | _
          · rfl
          · obtain ⟨j, hj, e⟩ := among_iff.1 ha
            exact absurd e (plain_iff.1 hp k j hlt hj)
        have HCALL := Lib.hid hcall
        have HNO := Lib.hid hno
        have HSR := Lib.hid hsr
        clear hcall ha hsr hno
        go_wp2_with fail
        go_quiet ((go_at_call 31; exact (HCALL.out _ (HSR.out.drewN _)).mono (fun e w' h => ⟨h.1, _, h.2.symm⟩)))
        go_wp2_with fail
        go_ret
        refine ⟨ret_bool HNO.out.symm, ?_⟩
        subst hB
        exact below_to HBR.out HBR.out.size (below_drewN _ _)
    · have hyes : plainB cs = true := plain_iff.2 fun i j hi hj e => by
        have h1 := HD.out i (by omega)
        have h2 := among_iff.2 ⟨j, hj, e⟩
        rw [h1] at h2; cases h2
      have HY := Lib.hid hyes
      clear hyes hsr
      go_wp2_with fail
      go_ret
      refine ⟨ret_bool HY.out.symm, ?_⟩
      subst hB
      exact HBR.out
end Go.Proofs.YtfhcbaamibipcaaDoor
