/- tread: steps. -/
import Derived.Test.YtfjbggodniemeaaTpC
import Derived.Test.YtfjbggodniemeaaGivenB
import Derived.Test.YtfjbggodniemeaaPair0
import Derived.Test.YtfjbggodniemeaaRound
import Derived.BigQuiet
set_option linter.unusedVariables false
set_option linter.unusedSimpArgs false
namespace Go.Proofs.Ytfjbggodniemeaa
open Go.RowKit
attribute [local go_sem] Oper.semAt_some

/-- the letters that can come, by number, with the states to which they lead -/
def stepsTo (row : List Int) (k : Nat) : List (Nat × Int) := (List.range k).filterMap fun i => if 0 ≤ gi row i then some (i, gi row i) else none
def stepsL (row : List Int) : List (Nat × Int) := stepsTo row row.length
theorem stepsTo_no {row : List Int} {k : Nat} (h : ¬ 0 ≤ gi row k) : stepsTo row (k + 1) = stepsTo row k := by
  unfold stepsTo; rw [List.range_succ, List.filterMap_append, List.filterMap_cons, if_neg h, List.filterMap_nil, List.append_nil]
theorem stepsTo_yes {row : List Int} {k : Nat} (h : 0 ≤ gi row k) : stepsTo row (k + 1) = stepsTo row k ++ [(k, gi row k)] := by
  unfold stepsTo; rw [List.range_succ, List.filterMap_append, List.filterMap_cons, if_pos h, List.filterMap_nil]
theorem stepsTo_pre {row : List Int} : ∀ {m k : Nat}, k ≤ m → stepsTo row k <+: stepsTo row m
  | 0, k, h => by rw [show k = 0 by omega]; exact List.prefix_refl _
  | m + 1, k, h => by
    by_cases e : k = m + 1
    · rw [e]; exact List.prefix_refl _
    · refine (stepsTo_pre (m := m) (by omega)).trans ?_
      by_cases h : 0 ≤ gi row m
      · rw [stepsTo_yes h]; exact List.prefix_append _ _
      · rw [stepsTo_no h]; exact List.prefix_refl _
def stepEnc (x : Nat × Int) : Array Value := #[.string (ByteArray.extract ⟨#[97, 98, 99]⟩ x.1 (x.1 + 1)), .int .i64 x.2]

theorem wrap64_small {k : Int} (h1 : -9223372036854775808 ≤ k) (h2 : k ≤ 9223372036854775807) : wrap64 k = k := by unfold wrap64; omega
theorem ReadsS.drewN' {X : Nat → Prop} {w : World} {v : Value} {xs : List Int} (h : ReadsS (fun b => b < w.heap.size ∧ ¬ X b) w v xs) (n : Nat) : ReadsS (fun b => b < (w.drewN n).heap.size ∧ ¬ X b) (w.drewN n) v xs := Reads.keepX h (KeepX.of_below (below_drewN w n))
theorem steps_any (P : Nat) (i : Int) (w : World) :
    Calls Try.prog 17 #[.pointer (some ⟨P, 0, none⟩), .int .i64 i] w fun e w' => e = .returned (.func (.func 30) #[] #[.pointer (some ⟨w.heap.size, 0, none⟩), .pointer (some ⟨w.heap.size + 1, 0, none⟩)]) ∧ (w.alloc (.cells #[.pointer (some ⟨P, 0, none⟩)] 42)).alloc (.cells #[.int .i64 i] 3) = w' := by
  go_enter Try.func17, Try.ntmps17
  go_wp2
  go_ret
  exact ⟨rfl, rfl⟩

set_option maxRecDepth 100000 in
set_option maxHeartbeats 1600000 in
theorem steps1_given (X : Nat → Prop) (row : List Int) (P Bm Bi g T cap i m : Nat) (rv : Value) (w : World) (hX : ∀ b, X b → b < w.heap.size + 2)
    (hm : w.heap[Bm]? = some (.cells #[.pointer (some ⟨P, 0, none⟩)] 42)) (hi : w.heap[Bi]? = some (.cells #[.int .i64 i] 3))
    (hP : w.cell? ⟨P, 2, none⟩ = some (.slice (some ⟨g, 0, none⟩) T cap)) (hg : w.cell? ⟨g, i, none⟩ = some rv) (hiT : i < T)
    (hr : ReadsS (fun b => b < w.heap.size ∧ ¬ X b) w rv row) (hl : row.length ≤ 2) :
    Given m Try.prog 30 #[.pointer (some ⟨Bm, 0, none⟩), .pointer (some ⟨Bi, 0, none⟩)] stepEnc (KeepX X) (fun zs => zs = stepsL row) (fun zs => zs <+: stepsL row) (fun pre x W => pre ++ [x] <+: stepsL row) w := by
  intro l J Jx W hW hWs hJ hJx hY h0
  refine CallsIn.any (m := 9) _ ?_
  have c1 := cell_of ((hW.block _ (heap_lt hm)).trans hm) (j := 0) rfl
  have c2 := cell_of ((hW.block _ (heap_lt hi)).trans hi) (j := 0) rfl
  have c3 := (hW.cell (p := ⟨P, 2, none⟩) (World.block_lt_of_cell? _ _ hP)).trans hP
  have c4 := (hW.cell (p := ⟨g, i, none⟩) (World.block_lt_of_cell? _ _ hg)).trans hg
  have HR : Hid (ReadsS (fun b => b < W.heap.size ∧ ¬ X b) W rv row) := Lib.hid (Reads.keepX hr (KeepX.of_below hW))
  obtain ⟨ra, rcap, hrv, _⟩ := hr
  subst hrv
  have hiT2 : (i : Int) < (T : Int) := by omega
  have i0 : (0 : Int) ≤ (i : Int) := by omega
  refine (callsIn_of_wp Try.func30 rfl trivial ?_ rfl)
  simp only [Try.ntmps30, List.size_toArray, List.length_cons, List.length_nil, Nat.reduceAdd, Nat.reduceSub, Array.replicate_succ, Array.replicate_zero, List.push_toArray, List.append_toArray, List.nil_append, List.cons_append]
  gi_wp2_with fail
  refine wpIn_wide.2 ?_
  go_quiet (fail)
  gi_wp2_with fail
  gi_loopw [14] (fun v wr => ∃ k : Nat, k ≤ row.length ∧ v = .int .i64 k ∧ J (stepsTo row k) wr ∧ ReadsS (fun b => b < wr.heap.size ∧ ¬ X b) wr (.slice ra row.length rcap) row) (fun v _ => row.length - (intOf v).toNat)
  case atStart => exact ⟨0, by omega, rfl, hJ _ _ _ none h0 (below_grown0 (below_drewN W _)) (fun _ e => by cases e), ReadsS.drewN' HR.out _⟩
  case round =>
    obtain ⟨k, hk, rfl, hj, hrr⟩ := hrel
    by_cases hkl : k < row.length
    · have k0 : (0 : Int) ≤ (k : Int) := by omega
      have k1 : (k : Int) < (row.length : Int) := by omega
      have k2 : (k : Int) ≤ (k : Int) + 1 := by omega
      have k3 : (k : Int) + 1 ≤ 3 := by omega
      have k4 : wrap64 ((k : Int) + 1) = (k : Int) + 1 := wrap64_small (by omega) (by omega)
      have HRR := Lib.hid hrr
      obtain ⟨_, _, he, _, _, h3⟩ := hrr
      cases he
      obtain ⟨b, off, rfl, _, hc⟩ := h3.resolve_left (by intro e; rw [e] at hkl; simp at hkl)
      have ck := hc k hkl
      have HX : Hid (k + 1 ≤ row.length) := Lib.hid hkl
      by_cases hge : 0 ≤ gi row k
      · have hpx : stepsTo row k ++ [(k, gi row k)] <+: stepsL row := by rw [← stepsTo_yes hge]; exact stepsTo_pre hkl
        obtain ⟨fn, tmps, assign, body, hy, hR⟩ := hY (stepsTo row k) (k, gi row k) wr hj hpx
        have HS := Lib.hid (stepsTo_yes hge)
        simp only [stepEnc] at hy
        have hR2 := (RoundIn.any 8 hR).mono (R' := fun e W' => ∃ b, e = .returned (.bool b) ∧ KeepX X wr W' ∧ (b = true → J (stepsTo row k ++ [(k, gi row k)]) W') ∧ (b = false → Jx (stepsTo row k ++ [(k, gi row k)]) W')) (by
          rintro e W' (⟨rfl, h3, h4⟩ | ⟨rfl, h3, h4⟩)
          · exact ⟨true, rfl, h4, fun _ => h3, fun h => (by cases h)⟩
          · exact ⟨false, rfl, h4, fun h => (by cases h), fun _ => h3⟩)
        have HPX := Lib.hid hpx
        clear hR hY HR h0 hj hpx
        gi_wp2_with fail
        refine hR2.mono ?_
        rintro e w1 ⟨b, rfl, hsame, hjt, hjf⟩
        have HR1 := Lib.hid (Reads.keepX HRR.out hsame)
        clear hR2 hy ck
        cases b
        · have HJF := Lib.hid (hjf rfl)
          clear hjt hjf
          gi_wp2_with fail
          refine bodyPost_ret (results_none rfl _ _ _) rfl ?_
          exact ⟨⟨_, rfl⟩, .inr ⟨_, HPX.out, HJF.out⟩⟩
        · have HJT := Lib.hid (hjt rfl)
          clear hjt hjf
          gi_wp2_with fail
          go_roundw
          case rel => exact ⟨k + 1, HX.out, by go_num, by rw [HS.out]; exact HJT.out, HR1.out⟩
          case measure => simp [intOf]; omega
      · have HS := Lib.hid (stepsTo_no hge)
        have HJ2 := Lib.hid hj
        clear hY HR h0 hj
        gi_wp2_with fail
        refine ⟨fun _ h => (by cases h), ?_⟩
        gi_wp2_with fail
        go_roundw
        case rel => exact ⟨k + 1, HX.out, by go_num, by rw [HS.out]; exact HJ2.out, HRR.out⟩
        case measure => simp [intOf]; omega
    · have hke : k = row.length := by omega
      subst hke
      clear hY h0 hrr
      gi_wp2_with fail
      go_end0
      exact ⟨⟨_, rfl⟩, .inl ⟨_, rfl, hj⟩⟩
end Go.Proofs.Ytfjbggodniemeaa
