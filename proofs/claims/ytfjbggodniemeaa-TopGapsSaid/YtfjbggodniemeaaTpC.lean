/- tread: newMachine. -/
import Derived.Test.YtfjbggodniemeaaTpB
import Derived.Test.YtfjbggodniemeaaTpN
import Derived.WalkSmall
set_option linter.unusedVariables false
set_option linter.unusedSimpArgs false
namespace Go.Proofs.Ytfjbggodniemeaa
open Go.RowKit

/-! ### what is computed -/
def stepM (set : List (List UInt8)) (i : Nat) (c : UInt8) (p : List (List UInt8) × List Int) : List (List UInt8) × List Int :=
  let s := p.1.getD i [] ++ [c]
  if avoidsB set s = true then
    let s2 := s.drop (s.length - 4)
    if s2 ∈ p.1 then (p.1, p.2 ++ [((p.1.idxOf s2 : Nat) : Int)]) else (p.1 ++ [s2], p.2 ++ [((p.1.length : Nat) : Int)])
  else (p.1, p.2 ++ [-1])
def stTo (set : List (List UInt8)) (i : Nat) (st : List (List UInt8)) : Nat → List (List UInt8) × List Int
  | 0 => (st, [])
  | p + 1 => stepM set i (97 + p).toUInt8 (stTo set i st p)
def machTo (set : List (List UInt8)) : Nat → List (List UInt8) × List (List Int)
  | 0 => ([[]], [])
  | i + 1 => let m := machTo set i; let p := stTo set i m.1 2; (p.1, m.2 ++ [p.2])
def fineS (i : Nat) (st : List (List UInt8)) : Bool := decide (i < st.length) && decide (st.length ≤ 20) && decide st.Nodup && st.all fun s => decide (s.length ≤ 4)
def fineM (set : List (List UInt8)) (T : Nat) : Bool := decide ((machTo set T).1.length = T) && decide (T ≤ 20) && (List.range T).all fun k => (List.range 2).all fun p => fineS k (stTo set k (machTo set k).1 p).1
theorem fine1 : fineM ss1 15 = true := by decide +kernel
theorem fine2 : fineM ss2 4 = true := by decide +kernel
theorem fineS_iff {i : Nat} {st : List (List UInt8)} (h : fineS i st = true) : i < st.length ∧ st.length ≤ 20 ∧ st.Nodup ∧ ∀ s ∈ st, s.length ≤ 4 := by
  unfold fineS at h
  simp only [Bool.and_eq_true, decide_eq_true_eq, List.all_eq_true] at h
  exact ⟨h.1.1.1, h.1.1.2, h.1.2, h.2⟩
theorem fineM_iff {set : List (List UInt8)} {T : Nat} (h : fineM set T = true) : (machTo set T).1.length = T ∧ T ≤ 20 ∧ ∀ k, k < T → ∀ p, p < 2 → fineS k (stTo set k (machTo set k).1 p).1 = true := by
  unfold fineM at h
  simp only [Bool.and_eq_true, decide_eq_true_eq, List.all_eq_true, List.mem_range] at h
  exact ⟨h.1.1, h.1.2, fun k hk p hp => h.2 k hk p hp⟩
theorem mach_rows (set : List (List UInt8)) : ∀ k, (machTo set k).2.length = k
  | 0 => rfl
  | k + 1 => by show ((machTo set k).2 ++ [_]).length = _; rw [List.length_append, mach_rows set k]; rfl
theorem slice_form {w : World} {b n : Nat} {e : TypeId} {v : Value} {xs : List Value} (h : w.ownsRow b e 1 v n xs) : ∃ a cap, v = .slice a n cap := by
  obtain ⟨_, h1 | ⟨g, cap, cur, h1, _⟩⟩ := h
  · exact ⟨none, 0, by rw [h1.1, h1.2]⟩
  · exact ⟨_, cap, h1⟩
theorem stepM_no {set : List (List UInt8)} {i : Nat} {c : UInt8} {st : List (List UInt8)} {r : List Int} {y : List UInt8} (hy : st.getD i [] ++ [c] = y) (h : avoidsB set y = false) : stepM set i c (st, r) = (st, r ++ [-1]) := by
  simp only [stepM, hy, h, Bool.false_eq_true, if_false]
theorem stepM_old {set : List (List UInt8)} {i : Nat} {c : UInt8} {st : List (List UInt8)} {r : List Int} {y z : List UInt8} (hy : st.getD i [] ++ [c] = y) (h : avoidsB set y = true) (hz : y.drop (y.length - 4) = z) (hin : z ∈ st) : stepM set i c (st, r) = (st, r ++ [((st.idxOf z : Nat) : Int)]) := by
  simp only [stepM, hy, h, if_true, hz, hin]
theorem stepM_new {set : List (List UInt8)} {i : Nat} {c : UInt8} {st : List (List UInt8)} {r : List Int} {y z : List UInt8} (hy : st.getD i [] ++ [c] = y) (h : avoidsB set y = true) (hz : y.drop (y.length - 4) = z) (hin : z ∉ st) : stepM set i c (st, r) = (st ++ [z], r ++ [((st.length : Nat) : Int)]) := by
  simp only [stepM, hy, h, if_true, hz, hin, if_false]

abbrev abS : ByteArray := ByteArray.extract ⟨#[97, 98, 99]⟩ 0 2
theorem bytes_add (x y : List UInt8) : (⟨x.toArray⟩ : ByteArray) ++ ⟨y.toArray⟩ = ⟨(x ++ y).toArray⟩ := by
  apply ByteArray.ext
  simp
theorem bytes_drop (y : List UInt8) (n : Nat) (hn : y.length = n + 1) : (⟨y.toArray⟩ : ByteArray).extract (max 0 ((n : Int) + 1 - 4)).toNat (n + 1) = ⟨(y.drop (y.length - 4)).toArray⟩ := by
  apply ByteArray.ext
  have e : (max 0 ((n : Int) + 1 - 4)).toNat = y.length - 4 := by omega
  rw [e, ← hn]
  simp
  rw [List.take_of_length_le (by rw [List.length_drop]; omega)]
theorem zero_int (w : World) : (zeroValue 3).run Try.prog w = .ok (.int .i64 0) w := by kernel_rfl
theorem enc_a : Utf8.encode 97 = ⟨[97].toArray⟩ := by decide +kernel
theorem enc_b : Utf8.encode 98 = ⟨[98].toArray⟩ := by decide +kernel
theorem ab_size : abS.size = 2 := by decide
theorem ab_0 : Utf8.decode abS 0 = (97, 1) := by decide +kernel
theorem ab_1 : Utf8.decode abS 1 = (98, 1) := by decide +kernel
theorem NR.open {base : Nat} {W : World} {nval : Value} {rw : List (List Int)} (h : NR base W nval rw) : ∃ a cap, nval = .slice a rw.length cap := by
  obtain ⟨vs, ⟨_, h1⟩, h2⟩ := h
  have hl := h2.len
  rcases h1 with ⟨rfl, h1⟩ | ⟨g, cap, cur, rfl, _⟩
  · exact ⟨none, 0, by rw [← hl, h1]⟩
  · exact ⟨_, cap, by rw [hl]⟩
theorem MS.open {w0 W : World} {sval nval : Value} {st : List (List UInt8)} (h : MS w0 W sval nval st) (hne : 0 < st.length) : ∃ g cap, sval = .slice (some ⟨g, 0, none⟩) st.length cap ∧ ∀ k, k < st.length → W.cell? ⟨g, k, none⟩ = some (sv (st.getD k [])) := by
  have hs := h.s
  have hs2 := hs
  obtain ⟨_, h2 | ⟨g, cap, cur, h3, h4, h5, h6, h7, _⟩⟩ := hs
  · have := h2.2; rw [List.length_map] at this; omega
  · subst h3
    refine ⟨g, cap, by rw [List.length_map], fun k hk => ?_⟩
    have := hs2.cellAt k (by rw [List.length_map]; omega)
    rw [this]; simp [hk]

set_option maxRecDepth 100000 in
set_option maxHeartbeats 3200000 in
theorem newMachine_any (set : List (List UInt8)) (T : Nat) (v : Value) (w : World) (hr : ReadsT w v set) (hn : set.length ≤ 1000) (hm : MaxAt w) (hT : fineM set T = true) :
    Calls Try.prog 14 #[.int .i64 2, v] w fun e w' => ∃ sval nval, e = .returned (.pointer (some ⟨w.heap.size + 1, 0, none⟩)) ∧ MS w w' sval nval (machTo set T).1 ∧ NR w.heap.size w' nval (machTo set T).2 := by
  have HRT := Lib.hid hr
  obtain ⟨c, cap, rfl, hlt, hcell⟩ := hr
  clear hcell hlt
  have hmm := @run_makeMap Try.prog
  go_enter Try.func14, Try.ntmps14
  have hm0 := MapIs.made sv ((w.alloc (.cells #[sv []] 9)).alloc (.cells #[.int .i64 2, .slice (some ⟨w.heap.size, 0, none⟩) 1 1, .slice none 0 0] 58))
  rw [show ((w.alloc (.cells #[sv []] 9)).alloc (.cells #[.int .i64 2, .slice (some ⟨w.heap.size, 0, none⟩) 1 1, .slice none 0 0] 58)).heap.size = w.heap.size + 2 by simp] at hm0
  obtain ⟨w2, hrun, hm2, hg2⟩ := run_mapUpdate_new key_str Try.underlying59 hm0 (a := []) (by simp) (.int .i64 0)
  have hMM0 : MS w w2 (.slice (some ⟨w.heap.size, 0, none⟩) 1 1) (.slice none 0 0) [[]] := by
    have hgs : w.heap.size + 2 + 1 ≤ w2.heap.size := by have := hg2.size; simp at this; omega
    refine ⟨(hg2.block _ (by simp) (by intro e; have := Option.some.inj e; omega)).trans (alloc_old (heap_alloc_at _ _ _ (by simp))), ?_, hm2, ?_⟩
    · refine ⟨rfl, .inr ⟨w.heap.size, 1, #[sv []], rfl, Nat.le_refl _, (hg2.block _ (by simp; omega) (by intro e; have := Option.some.inj e; omega)).trans (alloc_old (alloc_old (heap_alloc_new _ _))), Nat.le_refl _, by simp [maxLen], rfl, rfl⟩⟩
    · have hq : w.heap.size ≤ w.heap.size + 1 + 1 + 1 := by omega
      exact ((((Below.refl _ w).alloc (Nat.le_refl _) _).alloc (by simp) _).alloc (by simp <;> omega) _).grown hg2 (by simp; exact hq) (fun k e => by have := Option.some.inj e; omega)
  have HMM0 := Lib.hid hMM0
  obtain ⟨hT1, hT2, hT3⟩ := fineM_iff hT
  have HT1 := Lib.hid hT1
  have HT3 := Lib.hid hT3
  clear hMM0 hT1 hT3 hT
  go_wp2_with fail
  clear hrun hm0 hm2 hg2 hmm
  go_loopw [7] (fun i W => ∃ (k : Nat) (sval nval : Value), k ≤ T ∧ i = .int .i64 k ∧ MS w W sval nval (machTo set k).1 ∧ NR w.heap.size W nval (machTo set k).2) (fun i _ => T - (intOf i).toNat)
  case atStart => exact ⟨0, _, _, by omega, rfl, HMM0.out, ⟨[], World.ownsRow_nil _ _ _ _, trivial⟩⟩
  case round =>
    obtain ⟨k, sval, nval, hk, rfl, hmm, hnr⟩ := hrel
    have HMM := Lib.hid hmm
    have HNR := Lib.hid hnr
    have hm1 := cell_of hmm.m (j := 1) rfl
    have hm2 := cell_of hmm.m (j := 2) rfl
    clear hnr
    by_cases hlt : k < T
    · have hf1 := HT3.out k hlt 0 (by omega)
      rw [show stTo set k (machTo set k).1 0 = ((machTo set k).1, []) from rfl] at hf1
      obtain ⟨hkl, hf3, hf4, hf5⟩ := fineS_iff hf1
      simp only at hkl hf3 hf4 hf5
      have k0 : (0 : Int) ≤ (k : Int) := by omega
      have k1 : (k : Int) < ((machTo set k).1.length : Int) := by omega
      have HNEXT : Hid (stTo set k (machTo set k).1 2 = ((machTo set (k + 1)).1, (stTo set k (machTo set k).1 2).2) ∧ (machTo set (k + 1)).2 = (machTo set k).2 ++ [(stTo set k (machTo set k).1 2).2]) := Lib.hid ⟨rfl, rfl⟩
      have HFI := Lib.hid (HT3.out k hlt)
      obtain ⟨sa, scap, rfl, hcs⟩ := hmm.open (by omega)
      have hc0 := hcs k hkl
      clear hmm hf1 hcs
      generalize hST : (machTo set k).1 = st at *
      have HRWL : Hid ((machTo set k).2.length = k) := Lib.hid (mach_rows set k)
      generalize hRW : (machTo set k).2 = rw0 at *
      go_wp2_with fail
      have hit0 : (wr.iter abS 0).heap[wr.heap.size]? = some (.stringIter abS 0) := World.iter_heap wr abS 0
      have hbi : Below wr.heap.size wr (wr.iter abS 0) := (Below.refl _ _).alloc (Nat.le_refl _) _
      have HMI := Lib.hid (HMM.out.below hbi)
      have HNI := Lib.hid (HNR.out.same (SameT.below hbi) (SameT.below hbi))
      have HIT0 := Lib.hid hit0
      have hIB := HMM.out.b.size
      clear hm1 hm2 hit0 hbi hc0 HMM HNR
      generalize hWI : wr.iter _ 0 = WI at *
      generalize hIT : wr.heap.size = IT at *
      have hI2 : IT < WI.heap.size := heap_lt HIT0.out
      clear hWI hIT
      go_loopw [8] (fun rv W => ∃ (p : Nat) (sval : Value), p ≤ 2 ∧ W.heap[IT]? = some (.stringIter abS p) ∧ MS w W sval nval (stTo set k st p).1 ∧ SameT 3 WI W ∧ SameT 51 WI W ∧ WI.heap.size ≤ W.heap.size ∧ W.ownsRow WI.heap.size 3 1 rv ((stTo set k st p).2.map (Value.int .i64)).length ((stTo set k st p).2.map (Value.int .i64)) ∧ (stTo set k st p).2.length = p) (fun _ W => 2 - W.iterPos IT)
      case atStart => exact ⟨0, _, by omega, HIT0.out, HMI.out, SameT.refl _ _, SameT.refl _ _, Nat.le_refl _, World.ownsRow_nil _ _ _ _, rfl⟩
      case round =>
        obtain ⟨p, sval, hp, hit, hmm, hs1, hs2, hsz, hrow, hpl⟩ := hrel
        have hpos := iterPos_of hit
        have hp3 : p = 0 ∨ p = 1 ∨ p = 2 := by omega
        rcases hp3 with rfl | rfl | rfl
        · have hnx : ∀ ty, (Instr.next (.pointer (some ⟨IT, 0, none⟩)) true ty).run Try.prog wr = _ := fun ty => Lib.run_next_any_at wr IT abS 0 ty hit (by rw [ab_size]; omega)
          rw [ab_0] at hnx
          have HIT2 := Lib.hid (show (wr.iterAt IT abS 1).heap[IT]? = some (.stringIter abS 1) from Lib.iterAt_heap _ _ _ _ 1 hit)
          have HMM3 := Lib.hid (hmm.iterAt hit hIB 1)
          have HS1 := Lib.hid (hs1.trans (SameT.iterAt hit 1))
          have HS2 := Lib.hid (hs2.trans (SameT.iterAt hit 1))
          have HROW := Lib.hid (own_sameT hrow (SameT.iterAt hit 1))
          have HPL := Lib.hid hpl
          have HSZ : Hid (WI.heap.size ≤ (wr.iterAt IT abS 1).heap.size) := Lib.hid (Nat.le_trans hsz (Lib.below_iterAt (Below.refl 0 wr) (Nat.zero_le _) abS 1).size)
          have HSTEP : Hid (stTo set k st 1 = stepM set k 97 (stTo set k st 0)) := Lib.hid rfl
          have m1 := cell_of HMM3.out.m (j := 1) rfl
          obtain ⟨hkl2, hf32, hf42, hf52⟩ := fineS_iff (HFI.out 0 (by omega))
          obtain ⟨sa2, scap2, rfl, hcs⟩ := HMM3.out.open (by omega)
          have ck2 := hcs k hkl2
          clear hit hmm hs1 hs2 hrow hcs hpl hsz
          generalize hS : stTo set k st 0 = sr at *
          obtain ⟨st2, r2⟩ := sr
          have hk3 : (k : Int) < (st2.length : Int) := by simp only at hkl2; omega
          have hx4 : (st2.getD k []).length ≤ 4 := by
            simp only at hkl2 hf52
            rw [List.getD_eq_getElem?_getD, List.getElem?_eq_getElem hkl2]; exact hf52 _ (List.getElem_mem _)
          simp only at HMM3 HROW m1 ck2 hf32 hf42 HPL
          generalize hX : st2.getD k [] = x at *
          obtain ⟨y, hy⟩ : ∃ y, x ++ [97] = y := ⟨_, rfl⟩
          have HY : Hid (st2.getD k [] ++ [97] = y) := Lib.hid (by rw [hX]; exact hy)
          have hcat : (⟨x.toArray⟩ : ByteArray) ++ ⟨#[97]⟩ = ⟨y.toArray⟩ := by rw [← hy]; exact bytes_add x [97]
          have henc := enc_a
          have hyl : y.length = x.length + 1 := by rw [← hy]; simp
          go_wp2_with fail
          refine (avoids_any set _ y _ ((HRT.out).below HMM3.out.b) hn (by omega) (hm.below HMM3.out.b)).mono ?_
          rintro e w4 ⟨rfl, hb4⟩
          have HMM4 := Lib.hid (HMM3.out.below hb4)
          have HS14 := Lib.hid (HS1.out.trans (SameT.below hb4))
          have HS24 := Lib.hid (HS2.out.trans (SameT.below hb4))
          have HROW4 := Lib.hid (own_sameT HROW.out (SameT.below hb4))
          have HSZ4 := Lib.hid (Nat.le_trans HSZ.out hb4.size)
          have HIT4 := Lib.hid (KeepI.below hb4 _ _ _ HIT2.out)
          have hpos2 := iterPos_of HIT4.out
          have HLEN : Hid ((r2.map (Value.int .i64)).length ≤ 1000000000) := Lib.hid (by rw [List.length_map, HPL.out]; omega)
          have m14 := cell_of HMM4.out.m (j := 1) rfl
          clear m1 ck2 hb4 HMM3 HS1 HS2 HROW HSZ HIT2 hnx
          rcases hav : avoidsB set y with _ | _
          · go_wp2_with (at_builtin; refine append_T elem_int rfl _ _ rfl HROW4.out HSZ4.out rfl (.int .i64 (-1)) rfl rfl HLEN.out ?_; intro v5 w5 hown5 hb5 ho5 hne5)
            go_roundw
            case rel => exact ⟨1, _, by omega, ho5.keepI _ _ _ HIT4.out, by rw [HSTEP.out, stepM_no HY.out hav]; exact HMM4.out.onlyInt ho5 (by have := HMM4.out.b.size; omega) hb5, HS14.out.inner hb5, HS24.out.trans (ho5.sameT (by decide)), by have := HSZ4.out; have := hb5.size; omega, by rw [HSTEP.out, stepM_no HY.out hav]; simpa using hown5, by rw [HSTEP.out, stepM_no HY.out hav, List.length_append, HPL.out]; rfl⟩
            case measure => rw [iterPos_of (ho5.keepI _ _ _ HIT4.out), hpos]; omega
          · obtain ⟨z, hz⟩ : ∃ z, y.drop (y.length - 4) = z := ⟨_, rfl⟩
            have hext : (⟨y.toArray⟩ : ByteArray).extract (max 0 ((x.length : Int) + 1 - 4)).toNat (x.length + 1) = ⟨z.toArray⟩ := by rw [bytes_drop y x.length hyl, hz]
            by_cases hin : z ∈ st2
            · go_wp2_with (first
                | (at_lookup; refine map_lookup_yes rfl _ _ _ rfl key_str Try.underlying59 rfl HMM4.out.p z _ rfl (by rw [pairs_keys]; exact hf42) (pairs_mem hin) ?_)
                | (at_builtin; refine append_T elem_int rfl _ _ rfl HROW4.out HSZ4.out rfl (.int .i64 _) rfl rfl HLEN.out ?_; intro v5 w5 hown5 hb5 ho5 hne5))
              go_roundw
              case rel => exact ⟨1, _, by omega, ho5.keepI _ _ _ HIT4.out, by rw [HSTEP.out, stepM_old HY.out hav hz hin]; exact HMM4.out.onlyInt ho5 (by have := HMM4.out.b.size; omega) hb5, HS14.out.inner hb5, HS24.out.trans (ho5.sameT (by decide)), by have := HSZ4.out; have := hb5.size; omega, by rw [HSTEP.out, stepM_old HY.out hav hz hin]; simpa using hown5, by rw [HSTEP.out, stepM_old HY.out hav hz hin, List.length_append, HPL.out]; rfl⟩
              case measure => rw [iterPos_of (ho5.keepI _ _ _ HIT4.out), hpos]; omega
            · have HIN := Lib.hid hin
              have HSL : Hid ((st2.map sv).length ≤ 1000000000) := Lib.hid (by rw [List.length_map]; omega)
              go_wp2_with (first
                | (at_lookup; refine map_lookup_no rfl _ _ _ rfl key_str Try.underlying59 (zero_int _) rfl HMM4.out.p z rfl (by rw [pairs_keys]; exact HIN.out) ?_)
                | (at_mapUpdate; refine map_update_new rfl _ _ _ rfl key_str Try.underlying59 rfl HMM4.out.p z (.int .i64 _) rfl rfl (by rw [pairs_keys]; exact HIN.out) ?_; intro w6 hm6 hg6; have c6 := cell_of (SameT.grownMap HMM4.out.p hg6 _ _ _ HMM4.out.m) (j := 1) rfl)
                | (at_builtin; refine append_T elem_str rfl _ _ rfl (own_sameT HMM4.out.s (SameT.grownMap HMM4.out.p hg6)) (Nat.le_trans HMM4.out.b.size hg6.size) rfl (sv z) rfl rfl HSL.out ?_; intro v7 w7 hown7 hb7 ho7 hne7; rw [List.length_map] at hown7; obtain ⟨a7, cap7, hv7⟩ := slice_form hown7; subst hv7; have HN := Lib.hid (HMM4.out.newState hm6 hg6 hown7 hb7 ho7); have c7 := cell_of (ho7 _ _ (SameT.grownMap HMM4.out.p hg6 _ _ _ HMM4.out.m) (cells_ne (by decide) _ _)) (j := 1) rfl; have f7 := frozen_of_row _ _ 1 _ _ (ho7 _ _ (SameT.grownMap HMM4.out.p hg6 _ _ _ HMM4.out.m) (cells_ne (by decide) _ _)))
                | (at_builtin; refine append_T elem_int rfl _ _ rfl (own_sameT HROW4.out HN.out.2.1) (Nat.le_trans HSZ4.out HN.out.2.2.2.2) rfl (.int .i64 _) rfl (by rw [World.size_setCell]; rfl) HLEN.out ?_; intro v5 w5 hown5 hb5 ho5 hne5))
              go_roundw
              case rel => exact ⟨1, _, by omega, ho5.keepI _ _ _ (HN.out.2.2.2.1 _ _ _ HIT4.out), by rw [HSTEP.out, stepM_new HY.out hav hz hin]; exact HN.out.1.onlyInt ho5 (by have := HMM4.out.b.size; omega) hb5, (HS14.out.trans HN.out.2.1).inner hb5, (HS24.out.trans HN.out.2.2.1).trans (ho5.sameT (by decide)), Nat.le_trans HSZ4.out (Nat.le_trans HN.out.2.2.2.2 hb5.size), by rw [HSTEP.out, stepM_new HY.out hav hz hin]; simpa using hown5, by rw [HSTEP.out, stepM_new HY.out hav hz hin, List.length_append, HPL.out]; rfl⟩
              case measure => rw [iterPos_of (ho5.keepI _ _ _ (HN.out.2.2.2.1 _ _ _ HIT4.out)), hpos]; omega
        · have hnx : ∀ ty, (Instr.next (.pointer (some ⟨IT, 0, none⟩)) true ty).run Try.prog wr = _ := fun ty => Lib.run_next_any_at wr IT abS 1 ty hit (by rw [ab_size]; omega)
          rw [ab_1] at hnx
          have HIT2 := Lib.hid (show (wr.iterAt IT abS 2).heap[IT]? = some (.stringIter abS 2) from Lib.iterAt_heap _ _ _ _ 2 hit)
          have HMM3 := Lib.hid (hmm.iterAt hit hIB 2)
          have HS1 := Lib.hid (hs1.trans (SameT.iterAt hit 2))
          have HS2 := Lib.hid (hs2.trans (SameT.iterAt hit 2))
          have HROW := Lib.hid (own_sameT hrow (SameT.iterAt hit 2))
          have HPL := Lib.hid hpl
          have HSZ : Hid (WI.heap.size ≤ (wr.iterAt IT abS 2).heap.size) := Lib.hid (Nat.le_trans hsz (Lib.below_iterAt (Below.refl 0 wr) (Nat.zero_le _) abS 2).size)
          have HSTEP : Hid (stTo set k st 2 = stepM set k 98 (stTo set k st 1)) := Lib.hid rfl
          have m1 := cell_of HMM3.out.m (j := 1) rfl
          obtain ⟨hkl2, hf32, hf42, hf52⟩ := fineS_iff (HFI.out 1 (by omega))
          obtain ⟨sa2, scap2, rfl, hcs⟩ := HMM3.out.open (by omega)
          have ck2 := hcs k hkl2
          clear hit hmm hs1 hs2 hrow hcs hpl hsz
          generalize hS : stTo set k st 1 = sr at *
          obtain ⟨st2, r2⟩ := sr
          have hk3 : (k : Int) < (st2.length : Int) := by simp only at hkl2; omega
          have hx4 : (st2.getD k []).length ≤ 4 := by
            simp only at hkl2 hf52
            rw [List.getD_eq_getElem?_getD, List.getElem?_eq_getElem hkl2]; exact hf52 _ (List.getElem_mem _)
          simp only at HMM3 HROW m1 ck2 hf32 hf42 HPL
          generalize hX : st2.getD k [] = x at *
          obtain ⟨y, hy⟩ : ∃ y, x ++ [98] = y := ⟨_, rfl⟩
          have HY : Hid (st2.getD k [] ++ [98] = y) := Lib.hid (by rw [hX]; exact hy)
          have hcat : (⟨x.toArray⟩ : ByteArray) ++ ⟨#[98]⟩ = ⟨y.toArray⟩ := by rw [← hy]; exact bytes_add x [98]
          have henc := enc_b
          have hyl : y.length = x.length + 1 := by rw [← hy]; simp
          go_wp2_with fail
          refine (avoids_any set _ y _ ((HRT.out).below HMM3.out.b) hn (by omega) (hm.below HMM3.out.b)).mono ?_
          rintro e w4 ⟨rfl, hb4⟩
          have HMM4 := Lib.hid (HMM3.out.below hb4)
          have HS14 := Lib.hid (HS1.out.trans (SameT.below hb4))
          have HS24 := Lib.hid (HS2.out.trans (SameT.below hb4))
          have HROW4 := Lib.hid (own_sameT HROW.out (SameT.below hb4))
          have HSZ4 := Lib.hid (Nat.le_trans HSZ.out hb4.size)
          have HIT4 := Lib.hid (KeepI.below hb4 _ _ _ HIT2.out)
          have hpos2 := iterPos_of HIT4.out
          have HLEN : Hid ((r2.map (Value.int .i64)).length ≤ 1000000000) := Lib.hid (by rw [List.length_map, HPL.out]; omega)
          have m14 := cell_of HMM4.out.m (j := 1) rfl
          clear m1 ck2 hb4 HMM3 HS1 HS2 HROW HSZ HIT2 hnx
          rcases hav : avoidsB set y with _ | _
          · go_wp2_with (at_builtin; refine append_T elem_int rfl _ _ rfl HROW4.out HSZ4.out rfl (.int .i64 (-1)) rfl rfl HLEN.out ?_; intro v5 w5 hown5 hb5 ho5 hne5)
            go_roundw
            case rel => exact ⟨2, _, by omega, ho5.keepI _ _ _ HIT4.out, by rw [HSTEP.out, stepM_no HY.out hav]; exact HMM4.out.onlyInt ho5 (by have := HMM4.out.b.size; omega) hb5, HS14.out.inner hb5, HS24.out.trans (ho5.sameT (by decide)), by have := HSZ4.out; have := hb5.size; omega, by rw [HSTEP.out, stepM_no HY.out hav]; simpa using hown5, by rw [HSTEP.out, stepM_no HY.out hav, List.length_append, HPL.out]; rfl⟩
            case measure => rw [iterPos_of (ho5.keepI _ _ _ HIT4.out), hpos]; omega
          · obtain ⟨z, hz⟩ : ∃ z, y.drop (y.length - 4) = z := ⟨_, rfl⟩
            have hext : (⟨y.toArray⟩ : ByteArray).extract (max 0 ((x.length : Int) + 1 - 4)).toNat (x.length + 1) = ⟨z.toArray⟩ := by rw [bytes_drop y x.length hyl, hz]
            by_cases hin : z ∈ st2
            · go_wp2_with (first
                | (at_lookup; refine map_lookup_yes rfl _ _ _ rfl key_str Try.underlying59 rfl HMM4.out.p z _ rfl (by rw [pairs_keys]; exact hf42) (pairs_mem hin) ?_)
                | (at_builtin; refine append_T elem_int rfl _ _ rfl HROW4.out HSZ4.out rfl (.int .i64 _) rfl rfl HLEN.out ?_; intro v5 w5 hown5 hb5 ho5 hne5))
              go_roundw
              case rel => exact ⟨2, _, by omega, ho5.keepI _ _ _ HIT4.out, by rw [HSTEP.out, stepM_old HY.out hav hz hin]; exact HMM4.out.onlyInt ho5 (by have := HMM4.out.b.size; omega) hb5, HS14.out.inner hb5, HS24.out.trans (ho5.sameT (by decide)), by have := HSZ4.out; have := hb5.size; omega, by rw [HSTEP.out, stepM_old HY.out hav hz hin]; simpa using hown5, by rw [HSTEP.out, stepM_old HY.out hav hz hin, List.length_append, HPL.out]; rfl⟩
              case measure => rw [iterPos_of (ho5.keepI _ _ _ HIT4.out), hpos]; omega
            · have HIN := Lib.hid hin
              have HSL : Hid ((st2.map sv).length ≤ 1000000000) := Lib.hid (by rw [List.length_map]; omega)
              go_wp2_with (first
                | (at_lookup; refine map_lookup_no rfl _ _ _ rfl key_str Try.underlying59 (zero_int _) rfl HMM4.out.p z rfl (by rw [pairs_keys]; exact HIN.out) ?_)
                | (at_mapUpdate; refine map_update_new rfl _ _ _ rfl key_str Try.underlying59 rfl HMM4.out.p z (.int .i64 _) rfl rfl (by rw [pairs_keys]; exact HIN.out) ?_; intro w6 hm6 hg6; have c6 := cell_of (SameT.grownMap HMM4.out.p hg6 _ _ _ HMM4.out.m) (j := 1) rfl)
                | (at_builtin; refine append_T elem_str rfl _ _ rfl (own_sameT HMM4.out.s (SameT.grownMap HMM4.out.p hg6)) (Nat.le_trans HMM4.out.b.size hg6.size) rfl (sv z) rfl rfl HSL.out ?_; intro v7 w7 hown7 hb7 ho7 hne7; rw [List.length_map] at hown7; obtain ⟨a7, cap7, hv7⟩ := slice_form hown7; subst hv7; have HN := Lib.hid (HMM4.out.newState hm6 hg6 hown7 hb7 ho7); have c7 := cell_of (ho7 _ _ (SameT.grownMap HMM4.out.p hg6 _ _ _ HMM4.out.m) (cells_ne (by decide) _ _)) (j := 1) rfl; have f7 := frozen_of_row _ _ 1 _ _ (ho7 _ _ (SameT.grownMap HMM4.out.p hg6 _ _ _ HMM4.out.m) (cells_ne (by decide) _ _)))
                | (at_builtin; refine append_T elem_int rfl _ _ rfl (own_sameT HROW4.out HN.out.2.1) (Nat.le_trans HSZ4.out HN.out.2.2.2.2) rfl (.int .i64 _) rfl (by rw [World.size_setCell]; rfl) HLEN.out ?_; intro v5 w5 hown5 hb5 ho5 hne5))
              go_roundw
              case rel => exact ⟨2, _, by omega, ho5.keepI _ _ _ (HN.out.2.2.2.1 _ _ _ HIT4.out), by rw [HSTEP.out, stepM_new HY.out hav hz hin]; exact HN.out.1.onlyInt ho5 (by have := HMM4.out.b.size; omega) hb5, (HS14.out.trans HN.out.2.1).inner hb5, (HS24.out.trans HN.out.2.2.1).trans (ho5.sameT (by decide)), Nat.le_trans HSZ4.out (Nat.le_trans HN.out.2.2.2.2 hb5.size), by rw [HSTEP.out, stepM_new HY.out hav hz hin]; simpa using hown5, by rw [HSTEP.out, stepM_new HY.out hav hz hin, List.length_append, HPL.out]; rfl⟩
              case measure => rw [iterPos_of (ho5.keepI _ _ _ (HN.out.2.2.2.1 _ _ _ HIT4.out)), hpos]; omega
        · have hnx : ∀ ty, (Instr.next (.pointer (some ⟨IT, 0, none⟩)) true ty).run Try.prog wr = _ := fun ty => Lib.run_next_end_at wr IT abS 2 ty hit (by rw [ab_size]; omega)
          have HMM3 := Lib.hid hmm
          have HS1 := Lib.hid hs1
          have HS2 := Lib.hid hs2
          have HROW := Lib.hid hrow
          have HNI2 := Lib.hid (HNI.out.same HS1.out HS2.out)
          have m2 := cell_of HMM3.out.m (j := 2) rfl
          have hI3 := HMM3.out.b.size
          obtain ⟨r, hrdef⟩ : ∃ r, (stTo set k st 2).2 = r := ⟨_, rfl⟩
          have HRD := Lib.hid hrdef
          rw [hrdef] at HROW
          have hrow2 : OwnRow WI.heap.size wr u8 r := by have := HROW.out; rw [List.length_map] at this; exact this
          have hrone := hrow2.one
          obtain ⟨ra, rcap, hrv⟩ := slice_form hrow2
          subst hrv
          obtain ⟨vs, hvs1, hvs2⟩ := HNI2.out
          obtain ⟨na, ncap, hnv⟩ := slice_form hvs1
          subst hnv
          have HV1 := Lib.hid hvs1
          have HV2 := Lib.hid hvs2
          have HVL : Hid (vs.length ≤ 1000000000) := Lib.hid (by rw [hvs2.len]; have := HRWL.out; omega)
          have HRO : Hid (OwnRow w.heap.size wr _ r) := Lib.hid (hrow2.mono (by omega))
          have HI3 := Lib.hid hI3
          clear hit hmm hs1 hs2 hrow hpl hsz hvs1 hvs2 hrdef
          go_wp2_with (at_builtin; refine append_T elem_ints rfl _ _ rfl HV1.out HI3.out rfl _ hrone rfl HVL.out ?_; intro v5 w5 hown5 hb5 ho5 hne5; obtain ⟨a5, cap5, hv5⟩ := slice_form hown5; subst hv5; have HN := Lib.hid (HMM3.out.newRow HV2.out HRO.out hown5 hb5 ho5); have c5 := cell_of (ho5 _ _ HMM3.out.m (cells_ne (by decide) _ _)) (j := 2) rfl; have f5 := frozen_of_row _ _ 2 _ _ (ho5 _ _ HMM3.out.m (cells_ne (by decide) _ _)))
          go_roundw
          case rel => exact ⟨k + 1, _, _, by omega, by go_num, by rw [show (machTo set (k + 1)).1 = (stTo set k st 2).1 by rw [HNEXT.out.1]]; exact HN.out.1, by rw [HNEXT.out.2, HRD.out]; exact HN.out.2⟩
          case measure => simp [intOf]; omega
    · have hkT : k = T := by omega
      subst hkT
      have HL := Lib.hid hmm.s
      obtain ⟨sa, scap, rfl⟩ := slice_form hmm.s
      have kl : ¬ ((k : Int) < (((machTo set k).1.map sv).length : Int)) := by rw [List.length_map, HT1.out]; omega
      rw [List.length_map] at hm1 kl
      clear hmm hlt
      go_wp2_with fail
      go_ret
      exact ⟨rfl, _, _, HMM.out, HNR.out⟩
end Go.Proofs.Ytfjbggodniemeaa
