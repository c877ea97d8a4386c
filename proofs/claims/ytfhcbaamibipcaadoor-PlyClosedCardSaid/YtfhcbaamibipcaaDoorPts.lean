/- ply: points, the iterator over the points of a set. -/
import Derived.Test.YtfhcbaamibipcaaDoorPTz
import Derived.Test.YtfhcbaamibipcaaDoorPair0
set_option linter.unusedVariables false
set_option linter.unusedSimpArgs false
namespace Go.Proofs.YtfhcbaamibipcaaDoor
open Go.RowKit Go.Shelf
attribute [local go_sem] Oper.semAt_some

theorem points_any (s : Nat) (w : World) :
    Calls Tryd.prog 25 #[.int .u64 s] w fun e w' => e = .returned (.func (.func 37) #[] #[.pointer (some ⟨w.heap.size, 0, none⟩)]) ∧ w.alloc (.cells #[.int .u64 s] 32) = w' := by
  go_enter Tryd.func25, Tryd.ntmps25
  go_wp2
  go_ret
  exact ⟨rfl, rfl⟩

theorem u64_dec (c : Nat) (h0 : c ≠ 0) (h : c < 64) : IntKind.u64.wrap ((c : Int) - 1) = ((c - 1 : Nat) : Int) := by
  rw [show ((c : Int) - 1) = ((c - 1 : Nat) : Int) by omega]
  exact wrapU _ (by omega)

set_option maxRecDepth 100000 in
set_option maxHeartbeats 1600000 in
theorem points_given (s Bs : Nat) (hs : s < 64) (n : Nat) (hn : 1 ≤ n - 1) (w : World) (hBs : Bs < w.heap.size) : PtsGiven n Tryd.prog 37 Bs s 32 w := by
  intro l J Jx W hW hB hJ hJx hbear hT hY h0
  refine callsIn_of_wp Tryd.func37 rfl trivial ?_ rfl
  simp only [Tryd.ntmps37, List.size_toArray, List.length_cons, List.length_nil, Nat.reduceAdd, Nat.reduceSub, Array.replicate_succ, Array.replicate_zero, List.push_toArray, List.append_toArray, List.nil_append, List.cons_append]
  gi_wp2_with fail
  gi_loopw [3] (fun _ wr => ∃ (c : Nat) (pre : List Nat), c < 64 ∧ pre ++ bitsOf c = bitsOf s ∧ wr.heap[Bs]? = some (.cells #[.int .u64 c] 32) ∧ J pre wr) (fun _ wr => match wr.cell? ⟨Bs, 0, none⟩ with | some (.int _ c) => c.toNat | _ => 0)
  case atStart => exact ⟨s, [], hs, rfl, hB, h0⟩
  case round =>
    obtain ⟨c, pre, hc, hpre, hBc, hj⟩ := hrel
    have c1 := cell_of hBc (j := 0) rfl
    by_cases hc0 : c = 0
    · subst hc0
      have hp : pre = bitsOf s := by rw [bitsOf_zero, List.append_nil] at hpre; exact hpre
      have HP := Lib.hid hp
      clear hp hpre
      gi_wp2_with fail
      go_end0
      exact ⟨⟨_, rfl⟩, .inl (by rw [← HP.out]; exact hj)⟩
    · have hpos : (0 : Int) < (c : Int) := by omega
      obtain ⟨hstep, hlt, hx6⟩ := bitsOf_step hc hc0
      have hpx : pre ++ [Lib.ctz 64 c] <+: bitsOf s := by rw [← hpre, hstep]; exact ⟨bitsOf (c &&& (c - 1)), by simp⟩
      have hpre2 : (pre ++ [Lib.ctz 64 c]) ++ bitsOf (c &&& (c - 1)) = bitsOf s := by rw [← hpre, hstep]; simp
      obtain ⟨fn, tmps, assign, body, hy, hR⟩ := hY pre (Lib.ctz 64 c) wr hj hpx
      have htab := hT pre wr hj
      have htz := Lib.hid (tz_any c hc wr htab)
      have hand := u64_and c (c - 1) (by omega) (by omega)
      have hdec := u64_dec c hc0 hc
      have HP2 := Lib.hid hpre2
      have HPX := Lib.hid hpx
      have HC := Lib.hid c1
      have HLT := Lib.hid hlt
      clear hpre hpre2 hpx hstep hlt hY hB h0
      generalize Lib.ctz 64 c = x at *
      gi_wp2_with fail
      refine ⟨trivial, fun h => by simp [Fence.wide] at h, (callsIn_wide.2 htz.out).mono ?_⟩
      rintro e w' ⟨rfl, rfl⟩
      gi_wp2_with fail
      refine ⟨fun h => by simp [Fence.wide] at h, ?_⟩
      have hR2 := hR.mono (R' := fun e W' => ∃ b, e = .returned (.bool b) ∧ SameAt Bs wr W' ∧ (b = true → J (pre ++ [x]) W') ∧ (b = false → Jx (pre ++ [x]) W')) (by
        rintro e W' (⟨rfl, h3, h4⟩ | ⟨rfl, h3, h4⟩)
        · exact ⟨true, rfl, h4, fun _ => h3, fun h => (by cases h)⟩
        · exact ⟨false, rfl, h4, fun h => (by cases h), fun _ => h3⟩)
      clear hR hy htz
      refine hR2.mono ?_
      rintro e w1 ⟨b, rfl, hsame, hjt, hjf⟩
      have hB1 : w1.heap[Bs]? = some (.cells #[.int .u64 c] 32) := Eq.trans hsame hBc
      cases b
      · gi_wp2_with fail
        refine bodyPost_ret (results_none rfl _ _ _) rfl ?_
        exact ⟨⟨_, rfl⟩, .inr ⟨_, HPX.out, hjf trivial⟩⟩
      · have c2 := cell_of hB1 (j := 0) rfl
        have f2 := free_of hB1 0
        have hb2 := hbear _ _ (.int .u64 ((c &&& (c - 1) : Nat))) (hjt rfl)
        have hs2 := set_same (u := .int .u64 ((c &&& (c - 1) : Nat))) hB1
        have HB2 := Lib.hid hb2
        have HS2 := Lib.hid hs2
        clear hjt hjf hb2 hs2
        gi_wp2_with fail
        go_roundw
        case rel => exact ⟨c &&& (c - 1), pre ++ [x], by have := HLT.out; omega, HP2.out, HS2.out, HB2.out⟩
        case measure =>
          rw [cell_of HS2.out (j := 0) rfl, HC.out]
          have := HLT.out
          simp; omega
end Go.Proofs.YtfhcbaamibipcaaDoor
