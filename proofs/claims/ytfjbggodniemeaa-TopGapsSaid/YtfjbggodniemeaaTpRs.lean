/- gauge: rungs. -/
import Derived.Test.YtfjbggodniemeaaTpRg
import Derived.Test.YtfjbggodniemeaaGivenB
import Derived.Test.YtfjbggodniemeaaPair0
import Derived.Test.YtfjbggodniemeaaRound
import Derived.Test.YtfjbggodniemeaaTpS
set_option linter.unusedVariables false
set_option linter.unusedSimpArgs false
namespace Go.Proofs.Ytfjbggodniemeaa
open Go.RowKit
attribute [local go_sem] Oper.semAt_some

def rungsL (n : Nat) : List (Int × Int) := (List.range n).map rungV
theorem rungsL_succ (n : Nat) : rungsL (n + 1) = rungsL n ++ [rungV n] := by
  unfold rungsL; rw [List.range_succ, List.map_append]; rfl
theorem rungsL_pre {m k : Nat} (h : k ≤ m) : rungsL k <+: rungsL m := by
  induction m with
  | zero => rw [show k = 0 by omega]; exact List.prefix_refl _
  | succ m ih =>
    by_cases e : k = m + 1
    · rw [e]; exact List.prefix_refl _
    · exact (ih (by omega)).trans (by rw [rungsL_succ]; exact List.prefix_append _ _)
def rungEnc (x : Int × Int) : Array Value := #[gv x]
theorem rungs_any (n : Int) (w : World) :
    Calls Try.prog 10 #[.int .i64 n] w fun e w' => e = .returned (.func (.func 20) #[] #[.pointer (some ⟨w.heap.size, 0, none⟩)]) ∧ w.alloc (.cells #[.int .i64 n] 3) = w' := by
  go_enter Try.func10, Try.ntmps10
  go_wp2
  go_ret
  exact ⟨rfl, rfl⟩

set_option maxRecDepth 100000 in
set_option maxHeartbeats 1600000 in
theorem rungs1_given (X : Nat → Prop) (Bn n m : Nat) (w : World) (hX : ∀ b, X b → b < w.heap.size + 2)
    (hn : w.heap[Bn]? = some (.cells #[.int .i64 n] 3)) (hn61 : n ≤ 61) :
    Given m Try.prog 20 #[.pointer (some ⟨Bn, 0, none⟩)] rungEnc (KeepX X) (fun zs => zs = rungsL n) (fun zs => zs <+: rungsL n) (fun pre x W => pre ++ [x] <+: rungsL n) w := by
  intro l J Jx W hW hWs hJ hJx hY h0
  refine CallsIn.any (m := 9) _ ?_
  have c1 := cell_of ((hW.block _ (heap_lt hn)).trans hn) (j := 0) rfl
  refine (callsIn_of_wp Try.func20 rfl trivial ?_ rfl)
  simp only [Try.ntmps20, List.size_toArray, List.length_cons, List.length_nil, Nat.reduceAdd, Nat.reduceSub, Array.replicate_succ, Array.replicate_zero, List.push_toArray, List.append_toArray, List.nil_append, List.cons_append]
  gi_wp2_with fail
  gi_loopw [5] (fun v wr => ∃ k : Nat, k ≤ n ∧ v = .int .i64 k ∧ J (rungsL k) wr) (fun v _ => n - (intOf v).toNat)
  case atStart => exact ⟨0, by omega, rfl, h0⟩
  case round =>
    obtain ⟨k, hk, rfl, hj⟩ := hrel
    by_cases hkl : k < n
    · have k1 : (k : Int) < (n : Int) := by omega
      have hpx : rungsL k ++ [rungV k] <+: rungsL n := by rw [← rungsL_succ]; exact rungsL_pre hkl
      have HJ0 := Lib.hid hj
      have HPX := Lib.hid hpx
      clear hj hpx
      gi_wp2_with fail
      refine ⟨trivial, (callsIn_wide.2 (rung_any k (by omega) _)).mono ?_⟩
      rintro e w2 ⟨rfl, hb2⟩
      have hj2 := hJ _ _ _ none HJ0.out (below_grown0 hb2) (fun _ e => by cases e)
      obtain ⟨fn, tmps, assign, body, hy, hR⟩ := hY (rungsL k) (rungV k) w2 hj2 HPX.out
      simp only [rungEnc] at hy
      have hR2 := (RoundIn.any 8 hR).mono (R' := fun e W' => ∃ b, e = .returned (.bool b) ∧ (b = true → J (rungsL k ++ [rungV k]) W') ∧ (b = false → Jx (rungsL k ++ [rungV k]) W')) (by
        rintro e W' (⟨rfl, h3, h4⟩ | ⟨rfl, h3, h4⟩)
        · exact ⟨true, rfl, fun _ => h3, fun h => (by cases h)⟩
        · exact ⟨false, rfl, fun h => (by cases h), fun _ => h3⟩)
      have HS := Lib.hid (rungsL_succ k)
      clear hR hY h0 hj2 HJ0 hb2
      gi_wp2_with fail
      refine hR2.mono ?_
      rintro e w1 ⟨b, rfl, hjt, hjf⟩
      clear hR2 hy
      cases b
      · have HJF := Lib.hid (hjf rfl)
        clear hjt hjf
        gi_wp2_with fail
        refine bodyPost_ret (results_none rfl _ _ _) rfl ?_
        exact ⟨⟨_, rfl⟩, .inr ⟨_, HPX.out, HJF.out⟩⟩
      · have HJT := Lib.hid (hjt rfl)
        clear hjt hjf
        gi_wp2_with fail
        go_roundw
        case rel => exact ⟨k + 1, by omega, by go_num, by rw [HS.out]; exact HJT.out⟩
        case measure => simp [intOf]; omega
    · have hke : k = n := by omega
      subst hke
      clear hY h0
      gi_wp2_with fail
      go_end0
      exact ⟨⟨_, rfl⟩, .inl ⟨_, rfl, hj⟩⟩
end Go.Proofs.Ytfjbggodniemeaa
