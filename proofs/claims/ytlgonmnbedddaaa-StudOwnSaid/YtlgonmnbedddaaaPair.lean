/- The iterator over the pairs of columns: its contract. -/
import Derived.Test.YtlgonmnbedddaaaBase
import Derived.RangeFuncNested
import Derived.RangeFuncBound
import Derived.RangeFuncCalls
import Derived.RangeFuncLeaves
import Derived.Shelf.Abstract
import Derived.Shelf.RegionOpen
import Derived.OwnWalkIn
import Derived.TacticsInMore
import Derived.LoopNIn
import Derived.LoopIn
import Derived.Stop.RegionWithIn
import Derived.Sort.QuietIn
import Derived.Sort.QuietTacIn
set_option linter.unusedVariables false
set_option linter.unusedSimpArgs false
namespace Go.Proofs.Ytlgonmnbedddaaa
open Go.RowKit Go.Shelf
attribute [local go_sem] Oper.semAt_some

/-- the pairs of n columns, in lexicographic order -/
def rowN (n i m : Nat) : List (Nat × Nat) := (List.range m).map fun m => (i, i + 1 + m)
def uptoN (n i : Nat) : List (Nat × Nat) := (List.range i).flatMap fun i => rowN n i (n - 1 - i)
def pairsN (n : Nat) : List (Nat × Nat) := uptoN n n
theorem uptoN_succ (n i : Nat) : uptoN n (i + 1) = uptoN n i ++ rowN n i (n - 1 - i) := by simp [uptoN, List.range_succ]
theorem rowN_succ (n i m : Nat) : rowN n i (m + 1) = rowN n i m ++ [(i, i + 1 + m)] := by simp [rowN, List.range_succ]

/-- the step of two columns -/
def stepOf (xs : List Int) (p : Nat × Nat) : Int × Int := ((p.2 : Int) - p.1, gi xs p.2 - gi xs p.1)
def pairEnc (p : Nat × Nat) : Value := .agg #[.int .i64 p.1, .int .i64 p.2]
def stepEnc (s : Int × Int) : Value := .agg #[.int .i64 s.1, .int .i64 s.2]
def pairEncs (xs : List Int) (p : Nat × Nat) : Array Value := #[pairEnc p, stepEnc (stepOf xs p)]

/-- what a round answers -/
def Yielded {α : Type} (S : Nat → Prop) (J Jx : List α → World → Prop) (pre : List α) (W : World) (e : Ending) (W' : World) : Prop :=
  ∃ c, e = .returned (.bool c) ∧ (c = true → J pre W' ∧ SameS S W W') ∧ (c = false → Jx pre W')
theorem Yielded.of {α : Type} {S : Nat → Prop} {J Jx : List α → World → Prop} {pre : List α} {W : World} {e : Ending} {W' : World}
    (h : (e = .returned (.bool true) ∧ J pre W' ∧ SameS S W W') ∨ (e = .returned (.bool false) ∧ Jx pre W')) : Yielded S J Jx pre W e W' := by
  rcases h with ⟨h1, h2, h3⟩ | ⟨h1, h2⟩
  · exact ⟨true, h1, fun _ => ⟨h2, h3⟩, fun h => (by cases h)⟩
  · exact ⟨false, h1, fun h => (by cases h), fun _ => h2⟩

theorem uptoN_le (n : Nat) : ∀ d i, uptoN n i <+: uptoN n (i + d)
  | 0, i => List.prefix_rfl
  | d + 1, i => (uptoN_le n d i).trans (by rw [← Nat.add_assoc, uptoN_succ]; exact List.prefix_append _ _)
theorem rowN_le (n i : Nat) : ∀ d m, rowN n i m <+: rowN n i (m + d)
  | 0, m => List.prefix_rfl
  | d + 1, m => (rowN_le n i d m).trans (by rw [← Nat.add_assoc, rowN_succ]; exact List.prefix_append _ _)
theorem pairs_prefix {n k m : Nat} (h1 : k < n) (h2 : k + 1 + m < n) : uptoN n k ++ rowN n k m ++ [(k, k + 1 + m)] <+: pairsN n := by
  rw [List.append_assoc, ← rowN_succ]
  have e : uptoN n (k + 1) = uptoN n k ++ rowN n k (n - 1 - k) := uptoN_succ _ _
  have h3 : uptoN n k ++ rowN n k (m + 1) <+: uptoN n (k + 1) := by
    rw [e, List.prefix_append_right_inj]
    have := rowN_le n k (n - 1 - k - (m + 1)) (m + 1)
    rwa [show m + 1 + (n - 1 - k - (m + 1)) = n - 1 - k by omega] at this
  refine h3.trans ?_
  have := uptoN_le n (n - (k + 1)) (k + 1)
  rwa [show k + 1 + (n - (k + 1)) = n by omega] at this
theorem pairs_room {n k m : Nat} (h1 : k < n) (h2 : k + 1 + m < n) : (uptoN n k ++ rowN n k m).length < (pairsN n).length := by
  have := (pairs_prefix h1 h2).length_le
  simp only [List.length_append, List.length_singleton] at this ⊢
  omega

theorem pairs_any (a : Option Addr) (len cap : Nat) (w : World) :
    Calls Try.prog 27 #[.slice a len cap] w fun e w' => e = .returned (.func (.func 42) #[] #[.pointer (some ⟨w.heap.size, 0, none⟩)]) ∧ w.alloc (.cells #[.slice a len cap] 22) = w' := by
  go_enter Try.func27, Try.ntmps27
  go_wp2
  go_ret
  exact ⟨rfl, rfl⟩

set_option maxRecDepth 100000 in
set_option maxHeartbeats 1600000 in
theorem pairs1_in (S : Nat → Prop) (l Bn : Nat) (v : Value) (xs : List Int) (hsm : ∀ j, -1000000 ≤ gi xs j ∧ gi xs j ≤ 1000000) (hn : xs.length ≤ 1000000) (J Jx : List (Nat × Nat) → World → Prop) (n : Nat)
    (hY : ∀ pre x W, J pre W → pre.length < (pairsN xs.length).length → YieldAt Fence.wide (n - 1) Try.prog l (pairEncs xs x) W fun e W' =>
      (e = .returned (.bool true) ∧ J (pre ++ [x]) W' ∧ SameS S W W') ∨ (e = .returned (.bool false) ∧ Jx (pre ++ [x]) W'))
    (W : World) (hBn : W.cell? ⟨Bn, 0, none⟩ = some v) (hB0 : S Bn) (hv : ReadsS S W v xs) (hJa : AbidesFrom W.heap.size J) (h1n : 1 ≤ n - 1) (h0 : J [] W) :
    CallsIn Fence.wide n Try.prog 42 #[.func (.yield l) #[] #[], .pointer (some ⟨Bn, 0, none⟩)] W fun e W' => (∃ v, e = .returned v) ∧
      ((∃ ys, ys = pairsN xs.length ∧ J ys W') ∨ (∃ pre, pre <+: pairsN xs.length ∧ Jx pre W')) := by
  obtain ⟨a, cap, rfl, h1, h2, hcell⟩ := hv.open
  refine callsIn_of_wp Try.func42 rfl trivial ?_ rfl
  simp only [Try.ntmps42, List.size_toArray, List.length_cons, List.length_nil, Nat.reduceAdd, Nat.reduceSub, Array.replicate_succ, Array.replicate_zero, List.push_toArray, List.append_toArray, List.nil_append, List.cons_append]
  gi_wp2
  have hxl : xs.length ≤ 9223372036854775807 := by omega
  gi_loopw [7] (fun i wr => ∃ k : Nat, k ≤ xs.length ∧ i = .int .i64 k ∧ J (uptoN xs.length k) wr ∧ SameS S W wr) (fun i _ => xs.length - (intOf i).toNat)
  case atStart => exact ⟨0, by omega, rfl, h0, SameS.refl _ _⟩
  case round =>
    obtain ⟨k, hk, rfl, hJ, hb⟩ := hrel
    by_cases hlt : k < xs.length
    · gi_wp2
      have hJ0 : J (uptoN xs.length k ++ rowN xs.length k 0) wr := by simpa [rowN] using hJ
      obtain ⟨wo, hwo⟩ : ∃ wo : World, wo = wr := ⟨_, rfl⟩
      gi_loopw [4] (fun j wr => ∃ m : Nat, m ≤ xs.length - 1 - k ∧ j = .int .i64 ((k : Int) + 1 + m) ∧ J (uptoN xs.length k ++ rowN xs.length k m) wr ∧ SameS S W wr) (fun j _ => xs.length - (intOf j).toNat)
      case atStart => exact ⟨0, by omega, by go_num, hJ0, hb⟩
      case round =>
        obtain ⟨m, hm, rfl, hJ2, hb2⟩ := hrel
        have hBw : wr.cell? ⟨Bn, 0, none⟩ = some (.slice a xs.length cap) := (hb2.cell (p := ⟨Bn, 0, none⟩) hB0).trans hBn
        by_cases hlt2 : k + 1 + m < xs.length
        · have hlt3 : (k : Int) + 1 + m < xs.length := by omega
          obtain ⟨b, off, rfl, hcs⟩ := hcell wr hb2 k hlt
          have hc1 := hcs k hlt
          have hc2 := hcs (k + 1 + m) hlt2
          clear hcs
          have s1 := hsm k
          have s2 := hsm (k + 1 + m)
          have hJd : J (uptoN xs.length k ++ rowN xs.length k m) wr.drew := hJa _ _ _ none hJ2 ⟨rfl, rfl, rfl, Nat.le_refl _, fun _ _ _ => rfl⟩ (fun _ e => by cases e)
          obtain ⟨fn, tmps, assign, body, hy, hR⟩ := hY _ (k, k + 1 + m) wr.drew hJd (pairs_room hlt hlt2)
          have e1 : IntKind.i64.wrap (gi xs (k + 1 + m) - gi xs k) = gi xs (k + 1 + m) - gi xs k := IntWalk.i64_in _ (by omega)
          simp only [pairEncs, pairEnc, stepEnc, stepOf] at hy
          push_cast at hy
          clear hcell hY s1 s2
          gi_wp2
          have hR2 := hR.mono (R' := Yielded S J Jx (uptoN xs.length k ++ rowN xs.length k m ++ [(k, k + 1 + m)]) wr.drew) (fun e W' h => Yielded.of h)
          clear hR
          have h1n' : 1 ≤ n := by omega
          gi_region_with (refine hR2.mono ?_; rintro e W' ⟨c, rfl, hres⟩)
          all_goals
            cases c
            · gi_wp2
              refine bodyPost_ret (results_none rfl _ _ _) rfl ?_
              exact ⟨⟨_, rfl⟩, .inr ⟨_, pairs_prefix hlt hlt2, hres.2 (by first | rfl | trivial)⟩⟩
            · gi_wp2
              go_roundw
              case rel => exact ⟨m + 1, by omega, by go_num, by rw [rowN_succ, ← List.append_assoc]; exact (hres.1 (by first | rfl | trivial)).1, (hb2.trans (SameS.refl _ _).drew).trans (hres.1 (by first | rfl | trivial)).2⟩
              case measure => simp [intOf]; omega
        · have hlt3 : ¬ ((k : Int) + 1 + m < xs.length) := by omega
          gi_wp2
          go_roundw
          case rel => exact ⟨k + 1, by omega, by go_num, by rw [uptoN_succ, show xs.length - 1 - k = m by omega]; exact hJ2, hb2⟩
          case measure => simp [intOf]; omega
    · gi_wp2
      go_end0
      exact ⟨⟨_, rfl⟩, .inl ⟨_, rfl, by rw [show xs.length = k by omega] at hJ ⊢; exact hJ⟩⟩

/-- the contract of the iterator, as the law of the range statement takes it -/
theorem pairs_stops (S : Nat → Prop) (Bn : Nat) (v : Value) (xs : List Int) (hsm : ∀ j, -1000000 ≤ gi xs j ∧ gi xs j ≤ 1000000) (hn : xs.length ≤ 1000000) (n : Nat) (h1n : 1 ≤ n - 1)
    (w : World) (hBn : w.cell? ⟨Bn, 0, none⟩ = some v) (hB0 : S Bn) (hS : ∀ b, S b → b < w.heap.size) (hv : ReadsS S w v xs) :
    SeqStopsK Fence.wide n Try.prog 42 #[.pointer (some ⟨Bn, 0, none⟩)] (pairEncs xs) (SameS S) (fun ys => ys = pairsN xs.length) (fun pre => pre <+: pairsN xs.length) (pairsN xs.length).length w := by
  intro l J Jx W hW hJ hJx hY h0
  have hs : SameS S w W := SameS.of_below hW hS
  exact pairs1_in S l Bn v xs hsm hn J Jx n hY W ((hs.cell (p := ⟨Bn, 0, none⟩) hB0).trans hBn) hB0 (hv.same hs) hJ h1n h0
end Go.Proofs.Ytlgonmnbedddaaa
