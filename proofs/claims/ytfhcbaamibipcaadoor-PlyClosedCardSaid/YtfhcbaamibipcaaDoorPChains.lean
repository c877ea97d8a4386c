/- ply: Chains. -/
import Derived.Test.YtfhcbaamibipcaaDoorPCount
import Derived.Laws.EntriesVeiled
set_option linter.unusedVariables false
set_option linter.unusedSimpArgs false
namespace Go.Proofs.YtfhcbaamibipcaaDoor
open Go.RowKit Go.Shelf
attribute [local go_sem] Oper.semAt_some

set_option maxRecDepth 100000 in
set_option maxHeartbeats 1600000 in
theorem Chains_yes (v : Value) (cs : List Nat) (w : World) (hr : Reads w v (ofNats cs)) (hc : Codes cs) (hsp : spaceB cs = true) (hp : plainB cs = true) (hT : Tab w) :
    Calls Tryd.prog 14 #[v] w fun e w' => e = .returned (.tuple #[.int .i64 (wrap64 (sumTo (dnV cs) cs.length)), .int .i64 0]) ∧ Below w.heap.size w w' := by
  have hr0 := hr
  obtain ⟨a, cap, rfl, _, _, _⟩ := hr.open
  clear hr
  have hn6 := hc.2.1
  have hmm := @run_makeMap Tryd.prog
  have HP : Hid (plainB cs = true) := Lib.hid hp
  have HS := Lib.hid hsp
  have HC := Lib.hid hc
  clear hp
  go_enter Tryd.func14, Tryd.ntmps14
  go_wp2_with fail
  refine (newSpace_yes _ cs _ hr0 hc hsp hT).mono ?_
  clear hsp hc
  rintro e w1 ⟨rfl, hb1⟩
  obtain ⟨hs1, hb2⟩ := lay_sp hb1 cs.length (cell cs)
  have hT2 := hT.below hb2
  go_wp2_with fail
  generalize hW : World.alloc w1 _ = W at *
  generalize hX : w1.heap.size = Bx at *
  clear hW hX
  obtain ⟨d0, d1, d2, d3, d4, d5, d6⟩ := hs1.cells
  have HS1 := Lib.hid hs1
  clear hs1
  go_wp2_with fail
  refine (isPlain_any cs _ HC.out).mono ?_
  rintro e w2 ⟨rfl, hb3⟩
  rw [HP.out]
  have hb4 := below_to hb2 hb2.size hb3
  have hT3 := hT2.below hb3
  have hs2 := HS1.out.below hb3
  clear d0 d1 d2 d3 d4 d5 d6 HS1
  have lx := hs2.lt
  have lt := hT3.lt
  have hm0 : MapIs intKey (((w2.alloc (.map #[] 0)).alloc (.cells #[.map (some w2.heap.size)] 52)).alloc (.cells #[(.func (.func 24) #[] #[.pointer (some ⟨w2.heap.size + 1, 0, none⟩), .pointer (some ⟨Bx, 0, none⟩), .pointer (some ⟨w2.heap.size + 1 + 1, 0, none⟩)])] 53)) w2.heap.size [] :=
    ((MapIs.made intKey w2).of_block (heap_alloc_lt _ _ _ (by simp))).of_block (heap_alloc_lt _ _ _ (by simp; omega))
  have hk0 : (((w2.alloc (.map #[] 0)).alloc (.cells #[.map (some w2.heap.size)] 52)).alloc (.cells #[(.func (.func 24) #[] #[.pointer (some ⟨w2.heap.size + 1, 0, none⟩), .pointer (some ⟨Bx, 0, none⟩), .pointer (some ⟨w2.heap.size + 1 + 1, 0, none⟩)])] 53)).heap[w2.heap.size + 1]? = some (.cells #[.map (some w2.heap.size)] 52) := alloc_old (heap_alloc_at _ _ _ (by simp))
  have hf0 : (((w2.alloc (.map #[] 0)).alloc (.cells #[.map (some w2.heap.size)] 52)).alloc (.cells #[(.func (.func 24) #[] #[.pointer (some ⟨w2.heap.size + 1, 0, none⟩), .pointer (some ⟨Bx, 0, none⟩), .pointer (some ⟨w2.heap.size + 1 + 1, 0, none⟩)])] 53)).heap[w2.heap.size + 1 + 1]? = some (.cells #[(.func (.func 24) #[] #[.pointer (some ⟨w2.heap.size + 1, 0, none⟩), .pointer (some ⟨Bx, 0, none⟩), .pointer (some ⟨w2.heap.size + 1 + 1, 0, none⟩)])] 53) := heap_alloc_at _ _ _ (by simp)
  have hb5 : Below w2.heap.size w2 (((w2.alloc (.map #[] 0)).alloc (.cells #[.map (some w2.heap.size)] 52)).alloc (.cells #[(.func (.func 24) #[] #[.pointer (some ⟨w2.heap.size + 1, 0, none⟩), .pointer (some ⟨Bx, 0, none⟩), .pointer (some ⟨w2.heap.size + 1 + 1, 0, none⟩)])] 53)) := (((Below.refl _ _).alloc (Nat.le_refl _) _).alloc (by simp) _).alloc (by simp; omega) _
  have hx0 := hs2.below hb5
  have hn0 := hx0.n
  have HM0 := Lib.hid hm0
  have HK0 := Lib.hid hk0
  have HF0 := Lib.hid hf0
  have HB5 := Lib.hid hb5
  have HX0 := Lib.hid hx0
  clear hm0 hk0 hf0 hb5 hx0 hs2 hmm
  have hmm := @run_makeMap Tryd.prog
  go_wp2_with fail
  generalize hW3 : World.alloc (World.alloc (World.alloc w2 _) _) _ = W3 at *
  have HCW : Hid (CntW cs w2.heap.size (w2.heap.size + 1) Bx (w2.heap.size + 1 + 1) W3 []) := Lib.hid ⟨HK0.out, HM0.out, by simp, by simp, HX0.out, HF0.out, hT3.below HB5.out⟩
  have hcw := HCW.out
  have hb6 := below_to hb4 hb4.size HB5.out
  clear hW3 HM0 HK0 HF0 hn0 hmm
  generalize hbm : w2.heap.size = bm at *
  have hbmw : w.heap.size ≤ bm := by rw [← hbm]; exact hb4.size
  have hbmW : bm < W3.heap.size := hcw.m.lt
  have hsW : w.heap.size ≤ W3.heap.size := hb6.size
  have lt1 := hcw.tab.lt
  have hcnt : ∀ (k : Nat) (V : World) (kvs : List (Int × Value)), k < cs.length → CntW cs bm (bm + 1) Bx (bm + 1 + 1) V kvs → Calls Tryd.prog 24 #[.int .i64 k, .pointer (some ⟨bm + 1, 0, none⟩), .pointer (some ⟨Bx, 0, none⟩), .pointer (some ⟨bm + 1 + 1, 0, none⟩)] V fun e W' => e = .returned (.int .i64 (wrap64 (dnV cs k))) ∧ (∃ kvs', CntW cs bm (bm + 1) Bx (bm + 1 + 1) W' kvs') ∧ KeepM bm V W' := fun k V kvs hk h =>
    (count_any cs HS.out HP.out HC.out bm (bm + 1) Bx (bm + 1 + 1) (by omega) _ k V kvs (Nat.lt_succ_self _) hk h).mono fun e W' hh => ⟨hh.1, ⟨hh.2.1.choose, hh.2.1.choose_spec.1⟩, hh.2.2⟩
  have HCNT := Lib.hid hcnt
  have HB6 := Lib.hid hb6
  clear hcnt HB5 hb6 hcw
  go_loopw [8, 24] (fun s i wr => ∃ k : Nat, k ≤ cs.length ∧ i = .int .i64 k ∧ s = .int .i64 (wrap64 (sumTo (dnV cs) k)) ∧ (∃ kvs, CntW cs bm (bm + 1) Bx (bm + 1 + 1) wr kvs) ∧ KeepM bm W3 wr) (fun _ i _ => cs.length - (intOf i).toNat)
  case atStart => exact ⟨0, by omega, rfl, by rw [show wrap64 (sumTo (dnV cs) 0) = 0 by simp [sumTo, wrap64]], ⟨_, HCW.out⟩, KeepM.refl _ _⟩
  case round =>
    obtain ⟨k, hk, rfl, rfl, ⟨kvs, hcr⟩, hkr⟩ := hrel
    by_cases hlt : k < cs.length
    · have k1 : (k : Int) < (cs.length : Int) := by omega
      have HCR := Lib.hid hcr
      have HKR := Lib.hid hkr
      have cf := cell_of hcr.f (j := 0) rfl
      clear hcr hkr
      go_wp2_with fail
      refine (HCNT.out k _ kvs hlt HCR.out).mono ?_
      rintro e wr2 ⟨rfl, ⟨kv2, h1⟩, h2⟩
      have hadd : wrap64 (wrap64 (sumTo (dnV cs) k) + wrap64 (dnV cs k)) = wrap64 (sumTo (dnV cs) (k + 1)) := by
        rw [show sumTo (dnV cs) (k + 1) = sumTo (dnV cs) k + dnV cs k from rfl]; unfold wrap64; omega
      have HADD := Lib.hid hadd
      clear hadd
      go_wp2_with fail
      go_roundw
      case rel => exact ⟨k + 1, by omega, by go_num, by rw [HADD.out], ⟨_, h1⟩, HKR.out.trans h2⟩
      case measure => simp [intOf]; omega
    · have hkn : k = cs.length := by omega
      subst hkn
      have HKR := Lib.hid hkr
      clear hkr hcr
      go_wp2_with fail
      go_ret2
      exact ⟨rfl, HB6.out.trans (KeepM.below (B := w.heap.size) HKR.out hbmw hsW)⟩

set_option maxRecDepth 100000 in
theorem Chains_alike (v : Value) (cs : List Nat) (w : World) (hr : Reads w v (ofNats cs)) (hc : Codes cs) (hsp : spaceB cs = true) (hp : plainB cs = false) (hT : Tab w) :
    Calls Tryd.prog 14 #[v] w fun e w' => e = .returned (.tuple #[.int .i64 0, .int .i64 6]) ∧ Below w.heap.size w w' := by
  have hr0 := hr
  obtain ⟨a, cap, rfl, _, _, _⟩ := hr.open
  clear hr
  have hn6 := hc.2.1
  have HP := Lib.hid hp
  have HC := Lib.hid hc
  clear hp
  go_enter Tryd.func14, Tryd.ntmps14
  go_wp2_with fail
  refine (newSpace_yes _ cs _ hr0 hc hsp hT).mono ?_
  clear hsp hc
  rintro e w1 ⟨rfl, hb1⟩
  obtain ⟨hs1, hb2⟩ := lay_sp hb1 cs.length (cell cs)
  go_wp2_with fail
  generalize hW : World.alloc w1 _ = W at *
  generalize hX : w1.heap.size = Bx at *
  clear hW hX
  obtain ⟨d0, d1, d2, d3, d4, d5, d6⟩ := hs1.cells
  clear hs1
  go_wp2_with fail
  refine (isPlain_any cs _ HC.out).mono ?_
  rintro e w2 ⟨rfl, hb3⟩
  rw [HP.out]
  have hb4 := below_to hb2 hb2.size hb3
  clear d0 d1 d2 d3 d4 d5 d6
  go_wp2_with fail
  go_ret2
  exact ⟨rfl, hb4⟩
set_option maxRecDepth 100000 in
theorem Chains_no (v : Value) (l : List Int) (w : World) (hr : Reads w v l) (h : spL l = false) (hT : Tab w) :
    Calls Tryd.prog 14 #[v] w fun e w' => e = .returned (.tuple #[.int .i64 0, .int .i64 2]) ∧ Below w.heap.size w w' := by
  have hr0 := hr
  obtain ⟨a, cap, rfl, _, _, _⟩ := hr.open
  clear hr
  go_enter Tryd.func14, Tryd.ntmps14
  go_wp2_with fail
  refine (newSpace_no _ l _ hr0 h hT).mono ?_
  rintro e w1 ⟨n, c, rfl, hb1⟩
  obtain ⟨hs1, hb2⟩ := lay_sp hb1 n c
  go_wp2_with fail
  go_ret2
  exact ⟨rfl, hb2⟩
end Go.Proofs.YtfhcbaamibipcaaDoor
