/- tread: counts. (printed by gen_tpcnt.py) -/
import Derived.Test.YtfjbggodniemeaaTpK
set_option linter.unusedVariables false
set_option linter.unusedSimpArgs false
namespace Go.Proofs.Ytfjbggodniemeaa
open Go.RowKit
attribute [local go_sem] Oper.semAt_some

theorem Reads.s0 {w : World} {v : Value} {xs : List Int} (h : Reads w v xs) : ReadsS (fun b => b < w.heap.size) w v xs := Reads.s h (fun _ h => h)
theorem row_fine {rows : List (List Int)} (h : rowsFine rows = true) {i : Nat} {row : List Int} (hr : rows[i]? = some row) : row.length = 2 ∧ ∀ x ∈ stepsL row, x.1 < 2 ∧ 0 ≤ x.2 ∧ x.2.toNat < rows.length := by
  unfold rowsFine at h
  have := List.all_eq_true.1 h row (List.mem_of_getElem? hr)
  simp only [Bool.and_eq_true, decide_eq_true_eq, List.all_eq_true] at this
  exact ⟨this.1, fun x hx => ⟨(this.2 x hx).1.1, (this.2 x hx).1.2, (this.2 x hx).2⟩⟩
theorem wrapZ {z : Int} (h1 : -9223372036854775808 ≤ z) (h2 : z ≤ 9223372036854775807) : IntKind.i64.wrap z = z := by
  simp [IntKind.wrap, IntKind.bits, IntKind.signed]; omega
theorem MCol.shutM {w0 W W' : World} {v : Value} {xs : List (List Int)} (h : MCol w0 W v xs) (hs : MShut w0.heap.size W W') : MCol w0 W' v xs := by
  obtain ⟨vs, h1, h2, h3⟩ := h
  exact ⟨vs, own_sameT h1 (fun g cs fr hg => hs.keep g _ _ _ hg), h2.sameT (fun g cs fr hg => hs.keep g _ _ _ hg), h3.trans hs.below⟩
set_option maxRecDepth 100000 in
set_option maxHeartbeats 12800000 in
theorem counts_any (rows : List (List Int)) (P n : Nat) (w : World) (hM : MRd w P 15 rows) (hl : rows.length = 15) (hf : rowsFine rows = true) (hn : n ≤ 1000) :
    Calls Try.prog 24 #[.pointer (some ⟨P, 0, none⟩), .int .i64 n] w fun e w' => ∃ v', e = .returned v' ∧ MCol w w' v' (cntsTo rows (n + 1)) := by
  have HM := Lib.hid hM
  have HF := Lib.hid hf
  have HL := Lib.hid hl
  obtain ⟨⟨sa, scap, hs1⟩, ng, ncap, hn1, hn2⟩ := hM
  have hP := World.block_lt_of_cell? _ _ hs1
  have HN1 := Lib.hid hn1
  have HN2 := Lib.hid hn2
  clear hf hl hn1 hn2
  refine (callsIn_wide (n := 20)).1 ?_
  refine callsIn_of_wp_marks Try.func24 rfl trivial ?_ rfl
  simp only [Try.ntmps24, List.size_toArray, List.length_cons, List.length_nil, Nat.reduceAdd, Nat.reduceSub, Array.replicate_succ, Array.replicate_zero, List.push_toArray, List.append_toArray, List.nil_append, List.cons_append]
  have hs1' : (w.alloc (.cells #[.int .i64 1] 3)).cell? ⟨P, 1, none⟩ = some (.slice sa 15 scap) := (World.cell?_of_block (a := ⟨P, 1, none⟩) (heap_alloc_lt _ _ _ hP)).trans hs1
  gi_wp2_with fail
  refine ⟨trivial, (callsIn_wide.2 (repeat_any w.heap.size _ (heap_alloc_new w (.cells #[.int .i64 1] 3)))).mono ?_⟩
  rw [show (w.alloc (.cells #[.int .i64 1] 3)).heap.size = w.heap.size + 1 by simp]
  rintro e w1 ⟨rfl, hr1, hb1⟩
  have hbw : Below w.heap.size w w1 := ((Below.refl _ w).alloc (Nat.le_refl _) _).trans (hb1.mono (by omega))
  have hw1 : w.heap.size + 2 ≤ w1.heap.size := by have := heap_lt hr1; omega
  clear hs1' hb1
  gi_wp2_with fail
  have hbo : ((w1.alloc (.cells #[.slice (some ⟨w.heap.size + 1, 0, none⟩) 15 15] 51)).alloc (.cells #[.slice (some ⟨w1.heap.size, 0, none⟩) 1 1] 44)).heap[w1.heap.size + 1]? = some (.cells #[.slice (some ⟨w1.heap.size, 0, none⟩) 1 1] 44 (0, 0)) := heap_alloc_at _ _ _ (by simp)
  have hco : MCol w ((w1.alloc (.cells #[.slice (some ⟨w.heap.size + 1, 0, none⟩) 15 15] 51)).alloc (.cells #[.slice (some ⟨w1.heap.size, 0, none⟩) 1 1] 44)) (.slice (some ⟨w1.heap.size, 0, none⟩) 1 1) (cntsTo rows (0 + 1)) := by
    refine ⟨[.slice (some ⟨w.heap.size + 1, 0, none⟩) 15 15], ⟨rfl, .inr ⟨w1.heap.size, 1, _, rfl, by omega, alloc_old (heap_alloc_new _ _), by simp, by simp [maxLen], rfl, rfl⟩⟩, ?_, (hbw.alloc hbw.size _).alloc (by simp; omega) _⟩
    have e : cntsTo rows (0 + 1) = [List.replicate 15 1] := by show [List.replicate rows.length 1] = _; rw [HL.out]
    rw [e]
    exact ⟨⟨rfl, .inr ⟨w.heap.size + 1, 15, _, rfl, by omega, alloc_old (alloc_old hr1), by simp, by simp [maxLen], rfl, rfl⟩⟩, trivial⟩
  have hB1 : w.heap.size ≤ w1.heap.size + 1 := by omega
  clear hr1 hbw hw1
  generalize hWW : World.alloc (World.alloc w1 _) _ = WW at *
  generalize hBO : w1.heap.size + 1 = BO at *
  clear hWW hBO
  refine wpIn_loop (fun a' w' => ∃ (k : Nat) (outv : Value) (u2 u3 u4 u6 u7 u8 u9 u10 u11 u12 u13 u14 u15 u16 u17 u18 u21 u22 u23 u24 u25 u26 u27 u28 u29 u30 u31 u32 u33 u34 u35 u36 u37 u38 u39 u40 u41 u42 u43 u44 u45 u46 u47 u48 u49 u50 u51 u52 u53 u54 u55 u56 u57 u58 u59 u60 u61 : Value) (ds : List Deferred), k ≤ n ∧ (w'.heap[BO]? = some (.cells #[outv] 44 (0, 0)) ∧ MCol w w' outv (cntsTo rows (k + 1)) ∧ Marks w.heap.size w'.heap.size ds w') ∧ a' = { tmps := List.toArray ((.pointer (some ⟨P, 0, none⟩)) :: (.int .i64 n) :: u2 :: u3 :: u4 :: (.pointer (some ⟨BO, 0, none⟩)) :: u6 :: u7 :: u8 :: u9 :: u10 :: u11 :: u12 :: u13 :: u14 :: u15 :: u16 :: u17 :: u18 :: (.int .i64 n) :: (.int .i64 k) :: u21 :: u22 :: u23 :: u24 :: u25 :: u26 :: u27 :: u28 :: u29 :: u30 :: u31 :: u32 :: u33 :: u34 :: u35 :: u36 :: u37 :: u38 :: u39 :: u40 :: u41 :: u42 :: u43 :: u44 :: u45 :: u46 :: u47 :: u48 :: u49 :: u50 :: u51 :: u52 :: u53 :: u54 :: u55 :: u56 :: u57 :: u58 :: u59 :: u60 :: u61 :: []), defers := ds }) (fun (a' : Act) (_ : World) => n - (intOf (a'.tmps.getD 20 undef)).toNat) ⟨0, _, _, _, _, _, _, _, _, _, _, _, _, _, _, _, _, _, _, _, _, _, _, _, _, _, _, _, _, _, _, _, _, _, _, _, _, _, _, _, _, _, _, _, _, _, _, _, _, _, _, _, _, _, _, _, _, _, _, [], by omega, ⟨hbo, hco, trivial⟩, rfl⟩ ?_
  clear hbo hco
  rintro a' W ⟨k, outv, u2, u3, u4, u6, u7, u8, u9, u10, u11, u12, u13, u14, u15, u16, u17, u18, u21, u22, u23, u24, u25, u26, u27, u28, u29, u30, u31, u32, u33, u34, u35, u36, u37, u38, u39, u40, u41, u42, u43, u44, u45, u46, u47, u48, u49, u50, u51, u52, u53, u54, u55, u56, u57, u58, u59, u60, u61, ds, hk, ⟨hbo, hco, hmk⟩, rfl⟩
  have hbw := hco.below
  obtain ⟨oa, ocap, hov, ho1, ho2, ho3⟩ := hco.open
  rw [cntsTo_len] at ho1 ho3 hov
  subst hov
  by_cases hkn : k < n
  · obtain ⟨og, rv, rfl, hog, hok, hrow⟩ := ho3 k (by omega)
    rw [cntsTo_get (by omega)] at hrow
    obtain ⟨prev, hprev⟩ : ∃ p, cntTo rows k = p := ⟨_, rfl⟩
    have HB : Hid (∀ j, 0 ≤ gi prev j ∧ gi prev j ≤ 1152921504606846977) := Lib.hid (by rw [← hprev]; exact cntTo_bound rows k)
    have hpl : prev.length = 15 := by rw [← hprev, cntTo_len]; exact HL.out
    have HPREV : Hid (cntTo rows (k + 1) = cntNext rows prev) := Lib.hid (by rw [← hprev]; rfl)
    rw [hprev] at hrow
    obtain ⟨ra, rcap, rfl, _, _, hr3⟩ := hrow.reads
    obtain ⟨rb, roff, rfl, hrb, hrc⟩ := hr3.resolve_left (by intro e; rw [e] at hpl; simp at hpl)
    rw [hpl] at hrc hok
    have hkn2 : (k : Int) < (n : Int) := by omega
    have hkn3 : (k : Int) < ((k + 1 : Nat) : Int) := by omega
    have HBO := Lib.hid hbo
    have HCO := Lib.hid hco
    have HMK := Lib.hid hmk
    have HBW := Lib.hid hbw
    have HOK := Lib.hid hok
    have HRC := Lib.hid hrc
    have hsW : (W.alloc (.cells #[.int .i64 k] 3)).cell? ⟨P, 1, none⟩ = some (.slice sa 15 scap) := (((Below.refl W.heap.size W).alloc (Nat.le_refl _) (.cells #[.int .i64 k] 3)).cell (p := ⟨P, 1, none⟩) (Nat.lt_of_lt_of_le hP hbw.size)).trans ((hbw.cell (p := ⟨P, 1, none⟩) hP).trans hs1)
    clear hbo hco hmk hbw hok hrc ho3 hr3 hrow hprev
    gi_wp2_with (gi_at_make; refine make_fullIn _ elem_int rfl rfl _ _ rfl 15 rfl rfl (by omega) ?_; intro w2 hm2 hb2)
    have hsz1 : (W.alloc (.cells #[.int .i64 k] 3)).heap.size = W.heap.size + 1 := by simp
    rw [hsz1] at hm2 hb2
    have hbx := heap_alloc_new w2 (.cells #[.slice (some ⟨W.heap.size + 1, 0, none⟩) 15 15] 51)
    have hbel : Below w2.heap.size w2 (w2.alloc (.cells #[.slice (some ⟨W.heap.size + 1, 0, none⟩) 15 15] 51)) := (Below.refl _ _).alloc (Nat.le_refl _) _
    have hmm : (w2.alloc (.cells #[.slice (some ⟨W.heap.size + 1, 0, none⟩) 15 15] 51)).heap[W.heap.size + 1]? = some (.cells (List.replicate 15 (Value.int .i64 0)).toArray 3 (0, 0)) := alloc_old hm2
    have hsz2 := heap_lt hm2
    have hbk := (hb2.block W.heap.size (by omega)).trans (heap_alloc_new W (.cells #[.int .i64 k] 3))
    have hbk2 : (w2.alloc (.cells #[.slice (some ⟨W.heap.size + 1, 0, none⟩) 15 15] 51)).heap[W.heap.size]? = some (.cells #[.int .i64 k] 3 (0, 0)) := alloc_old hbk
    have hW0 : Below W.heap.size W (w2.alloc (.cells #[.slice (some ⟨W.heap.size + 1, 0, none⟩) 15 15] 51)) := (((Below.refl _ W).alloc (Nat.le_refl _) (.cells #[.int .i64 k] 3)).trans (hb2.mono (by omega))).alloc (by omega) _
    have hmk2 := Marks.below HMK.out hW0
    have hmk3 : Marks w.heap.size (w2.alloc (.cells #[.slice (some ⟨W.heap.size + 1, 0, none⟩) 15 15] 51)).heap.size ds (w2.alloc (.cells #[.slice (some ⟨W.heap.size + 1, 0, none⟩) 15 15] 51)) := hmk2.mono hW0.size
    have hsz3 : (w2.alloc (.cells #[.slice (some ⟨W.heap.size + 1, 0, none⟩) 15 15] 51)).heap.size = w2.heap.size + 1 := by simp
    clear hm2 hbel hbk hmk2 hsW hb2
    generalize hWW : World.alloc w2 _ = WW at *
    generalize hBB : w2.heap.size = BB at *
    clear hWW hBB
    have hWs : w.heap.size ≤ W.heap.size := HBW.out.size
    generalize hW0' : W = W0 at *
    generalize hBK : W0.heap.size = BK at *
    clear hW0'
    have hmm2 : WW.heap[BK + 1]? = some (.cells ((nowTo rows prev 0).map (Value.int .i64)).toArray 3 (0, 0)) := by rw [nowTo_zero, HL.out, List.map_replicate]; exact hmm
    refine wpIn_loop (fun a' w' => ∃ (i : Nat) (u2 u3 u4 u8 u9 u10 u11 u12 u13 u14 u15 u16 u17 u18 u21 u22 u23 u24 u25 u26 u27 u28 u29 u32 u33 u34 u35 u36 u37 u38 u39 u40 u41 u42 u43 u44 u45 u46 u47 u48 u49 u50 u51 u52 u53 u54 u55 u56 u57 u58 u59 u60 u61 : Value) (ds : List Deferred), i ≤ 15 ∧ (w'.heap[BK + 1]? = some (.cells ((nowTo rows prev i).map (Value.int .i64)).toArray 3 (0, 0)) ∧ w'.heap[BK]? = some (.cells #[.int .i64 k] 3 (0, 0)) ∧ w'.heap[BB]? = some (.cells #[.slice (some ⟨BK + 1, 0, none⟩) 15 15] 51 (0, 0)) ∧ Below W0.heap.size W0 w' ∧ BB + 1 ≤ w'.heap.size ∧ Marks w.heap.size w'.heap.size ds w') ∧ a' = { tmps := List.toArray ((.pointer (some ⟨P, 0, none⟩)) :: (.int .i64 n) :: u2 :: u3 :: u4 :: (.pointer (some ⟨BO, 0, none⟩)) :: (.pointer (some ⟨BK, 0, none⟩)) :: (.pointer (some ⟨BB, 0, none⟩)) :: u8 :: u9 :: u10 :: u11 :: u12 :: u13 :: u14 :: u15 :: u16 :: u17 :: u18 :: (.int .i64 n) :: (.int .i64 k) :: u21 :: u22 :: u23 :: u24 :: u25 :: u26 :: u27 :: u28 :: u29 :: (.int .i64 15) :: (.int .i64 i) :: u32 :: u33 :: u34 :: u35 :: u36 :: u37 :: u38 :: u39 :: u40 :: u41 :: u42 :: u43 :: u44 :: u45 :: u46 :: u47 :: u48 :: u49 :: u50 :: u51 :: u52 :: u53 :: u54 :: u55 :: u56 :: u57 :: u58 :: u59 :: u60 :: u61 :: []), defers := ds }) (fun (a' : Act) (_ : World) => 15 - (intOf (a'.tmps.getD 31 undef)).toNat) ⟨0, _, _, _, _, _, _, _, _, _, _, _, _, _, _, _, _, _, _, _, _, _, _, _, _, _, _, _, _, _, _, _, _, _, _, _, _, _, _, _, _, _, _, _, _, _, _, _, _, _, _, _, _, _, ds, by omega, ⟨hmm2, hbk2, hbx, by rw [hBK]; exact hW0, by omega, hmk3⟩, rfl⟩ ?_
    clear hmm hmm2 hbk2 hbx hW0 hmk3 hsz3
    rintro a' W ⟨i, u2, u3, u4, u8, u9, u10, u11, u12, u13, u14, u15, u16, u17, u18, u21, u22, u23, u24, u25, u26, u27, u28, u29, u32, u33, u34, u35, u36, u37, u38, u39, u40, u41, u42, u43, u44, u45, u46, u47, u48, u49, u50, u51, u52, u53, u54, u55, u56, u57, u58, u59, u60, u61, ds, hi, ⟨hnow, hbk, hbb, hw0, hsz, hmk⟩, rfl⟩
    by_cases hi15 : i < 15
    · have hil : i < rows.length := by rw [HL.out]; exact hi15
      have hii : (i : Int) < 15 := by omega
      have hbwW : Below w.heap.size w W := HBW.out.trans (hw0.mono (by omega))
      have hal : Below W.heap.size W (W.alloc (.cells #[.int .i64 i] 3)) := (Below.refl _ _).alloc (Nat.le_refl _) _
      have y8 := heap_alloc_new W (.cells #[.int .i64 i] 3)
      have ynow := (hal.block _ (heap_lt hnow)).trans hnow
      have ybk := (hal.block _ (heap_lt hbk)).trans hbk
      have ybb := (hal.block _ (heap_lt hbb)).trans hbb
      have yw0 := hw0.trans (hal.mono (by have := hw0.size; omega))
      have ymk := hmk.below hal
      have hszA : (W.alloc (.cells #[.int .i64 i] 3)).heap.size = W.heap.size + 1 := by simp
      have q30 := cell_of hbb (j := 0) rfl
      have HBWW := Lib.hid (hbwW.trans (hal.mono hbwW.size))
      clear hnow hbk hbb hw0 hmk hal hbwW
      gi_wp2_with fail
      clear q30
      generalize hWA : World.alloc W _ = WA at *
      generalize hB : W.heap.size = B at *
      clear hWA hB
      refine ⟨trivial, (callsIn_wide.2 (steps_any P i _)).mono ?_⟩
      rintro e w1 ⟨rfl, rfl⟩
      have hal : Below WA.heap.size WA ((WA.alloc (.cells #[.pointer (some ⟨P, 0, none⟩)] 42)).alloc (.cells #[.int .i64 i] 3)) := ((Below.refl _ _).alloc (Nat.le_refl _) _).alloc (by simp) _
      have hb1 : ((WA.alloc (.cells #[.pointer (some ⟨P, 0, none⟩)] 42)).alloc (.cells #[.int .i64 i] 3)).heap[WA.heap.size]? = some (.cells #[.pointer (some ⟨P, 0, none⟩)] 42) := alloc_old (heap_alloc_new _ _)
      have hb2 : ((WA.alloc (.cells #[.pointer (some ⟨P, 0, none⟩)] 42)).alloc (.cells #[.int .i64 i] 3)).heap[WA.heap.size + 1]? = some (.cells #[.int .i64 i] 3) := heap_alloc_at _ _ _ (by simp)
      have x8 := (hal.block _ (heap_lt y8)).trans y8
      have xnow := (hal.block _ (heap_lt ynow)).trans ynow
      have xbk := (hal.block _ (heap_lt ybk)).trans ybk
      have xbb := (hal.block _ (heap_lt ybb)).trans ybb
      have xw0 := yw0.trans (hal.mono (by have := yw0.size; omega))
      have xmk := ymk.below hal
      have xbw := HBWW.out.trans (hal.mono HBWW.out.size)
      have hszB : ((WA.alloc (.cells #[.pointer (some ⟨P, 0, none⟩)] 42)).alloc (.cells #[.int .i64 i] 3)).heap.size = B + 3 := by simp [hszA]
      rw [hszA] at hb1 hb2 ⊢
      generalize hWB : World.alloc (World.alloc WA _) _ = WB at *
      clear hWB hal y8 ynow ybk ybb yw0 ymk hszA HBWW
      gi_wp2_with fail
      obtain ⟨rowv, hrowc, hrowr⟩ := HN2.out i hi15
      obtain ⟨row, hrow⟩ : ∃ r, rows.getD i [] = r := ⟨_, rfl⟩
      rw [hrow] at hrowr
      have hri : rows[i]? = some row := by rw [← hrow]; simp [hil]
      have hfr := row_fine HF.out hri
      have hXs : ∀ b, b < w.heap.size → b < WB.heap.size ∧ ¬ (b = BK + 1 ∨ b = WB.heap.size ∨ b = WB.heap.size + 1) := fun b hb => by rw [hszB]; omega
      have hrr : ReadsS (fun b => b < WB.heap.size ∧ ¬ (b = BK + 1 ∨ b = WB.heap.size ∨ b = WB.heap.size + 1)) WB rowv row := (ReadsS.same (S := fun b => b < w.heap.size) hrowr.s0 (SameS.of_below xbw (fun _ h => h))).mono hXs
      have HRW : Hid (cntRow prev (stepsL row) = cntRow prev (stepsL (rows.getD i []))) := Lib.hid (by rw [hrow])
      refine range_imgs (gf := 30) (lb := #[.pointer (some ⟨B + 1, 0, none⟩), .pointer (some ⟨B + 1 + 1, 0, none⟩)]) rfl (enters_of Try.func30 (by kernel_rfl) rfl)
        (given_B (steps1_given (fun b => b = BK + 1 ∨ b = WB.heap.size ∨ b = WB.heap.size + 1) row P (B + 1) (B + 1 + 1) ng 15 ncap i _ rowv WB (fun b hb => by omega) hb1 hb2 ((xbw.cell (p := ⟨P, 2, none⟩) hP).trans HN1.out) ((xbw.cell (p := ⟨ng, i, none⟩) (World.block_lt_of_cell? _ _ hrowc)).trans hrowc) hi15 hrr (by have := hfr.1; omega)))
        (fun A => KeepX.refl _ _) (fun h k => KeepX.trans h k) (fun W o' => KeepX.putObj (.inr (.inr rfl))) (fun _ => rfl)
        (fun pre V => V.heap[BK + 1]? = some (.cells (((nowTo rows prev i).set i (cntRow prev pre)).map (Value.int .i64)).toArray 3 (0, 0)) ∧ V.heap[BK]? = some (.cells #[.int .i64 k] 3 (0, 0)) ∧ V.heap[BB]? = some (.cells #[.slice (some ⟨BK + 1, 0, none⟩) 15 15] 51 (0, 0)) ∧ V.heap[B]? = some (.cells #[.int .i64 i] 3 (0, 0)) ∧ Below W0.heap.size W0 V ∧ Marks w.heap.size B ds V ∧ B + 3 ≤ V.heap.size)
        (fun c pre V => False) ?a1 ?hI (fun c s W W' row h _ _ => h) ?hIB ⟨?h0, xbk, xbb, x8, xw0, xmk, by omega⟩ ?assign ?body (fun pre x a' s W W' row h _ _ => h) ?done ?stop
      case h0 =>
        show WB.heap[BK + 1]? = some (.cells (((nowTo rows prev i).set i 0).map (Value.int .i64)).toArray 3 (0, 0))
        rw [nowTo_at hil]; exact xnow
      case assign =>
        intro l x W K hK
        simp only [stepEnc]
        gi_wp2
        exact hK
      case hI =>
        rintro s' V V' row' ⟨h1, h2, h3, h4, h5, h6, h7⟩ hg hr
        exact ⟨own_block hg hr (by omega) h1, own_block hg hr (by omega) h2, own_block hg hr (by omega) h3, own_block hg hr (by omega) h4, h5.grown hg h5.size (fun q e => by have := (hr q e).1; omega), h6.grown hg (fun q e => by have := (hr q e).1; omega), Nat.le_trans h7 hg.size⟩
      case hIB =>
        rintro s' V b j v hb ⟨h1, h2, h3, h4, h5, h6, h7⟩
        exact ⟨(heap_setCell_other _ _ _ _ (by show BK + 1 ≠ b; omega)).trans h1, (heap_setCell_other _ _ _ _ (by show BK ≠ b; omega)).trans h2, (heap_setCell_other _ _ _ _ (by show BB ≠ b; omega)).trans h3, (heap_setCell_other _ _ _ _ (by show B ≠ b; omega)).trans h4, h5.setCell (p := ⟨b, j, none⟩) (by show W0.heap.size ≤ b; omega) _, h6.setCell _ _ _, by simpa using h7⟩
      case body =>
        rintro l pre ⟨c, jj⟩ V hl' ⟨h1, h2, h3, h4, h5, h6, h7⟩ hpx
        have hmem : (c, jj) ∈ stepsL row := hpx.subset (by simp)
        obtain ⟨_, hj0, hj15⟩ := hfr.2 _ hmem
        obtain ⟨j, rfl⟩ : ∃ j : Nat, jj = (j : Int) := ⟨jj.toNat, by simp only at hj0; omega⟩
        have hj15' : j < 15 := by rw [HL.out] at hj15; simpa using hj15
        have HSN : Hid (cntRow prev (pre ++ [(c, (j : Int))]) = if cntRow prev pre + gi prev j < 1152921504606846977 then cntRow prev pre + gi prev j else 1152921504606846977) := Lib.hid (by rw [cntRow_snoc]; rfl)
        have hA := cntRow_bound HB.out pre
        have hBv := HB.out j
        have q7 := cell_of h3 (j := 0) rfl
        have q8 := cell_of h4 (j := 0) rfl
        have qn : V.cell? ⟨BK + 1, i, none⟩ = some (.int .i64 (cntRow prev pre)) := cell_of h1 (j := i) (by simp [nowTo_len (rows := rows) (prev := prev) (i := i) (by omega), HL.out, hi15])
        have fn := free_of h1 i
        have q5 := cell_of ((h5.block BO (heap_lt HBO.out)).trans HBO.out) (j := 0) rfl
        have q6 := cell_of h2 (j := 0) rfl
        have qr := (h5.cell (p := ⟨og, k, none⟩) (by show og < W0.heap.size; omega)).trans HOK.out
        have qe := (h5.cell (p := ⟨rb, roff + j, none⟩) (by show rb < W0.heap.size; omega)).trans (HRC.out j hj15')
        have i0 : (0 : Int) ≤ (i : Int) := by omega
        have k0 : (0 : Int) ≤ (k : Int) := by omega
        have j0 : (0 : Int) ≤ (j : Int) := by omega
        have j1 : (j : Int) < 15 := by omega
        have H1 := Lib.hid h1
        have H2 := Lib.hid h2
        have H3 := Lib.hid h3
        have H4 := Lib.hid h4
        have H5 := Lib.hid h5
        have H6 := Lib.hid h6
        have H7 : Hid (B + 3 ≤ V.heap.size) := Lib.hid h7
        clear h1 h2 h3 h4 h5 h6 h7 hpx hmem hj0 hj15
        generalize cntRow prev pre = A at *
        generalize gi prev j = Bv at *
        have hws := wrap64_small (k := A + Bv) (by omega) (by omega)
        have hws2 : IntKind.i64.wrap (A + Bv) = A + Bv := wrapZ (by omega) (by omega)
        rw [show (if A + Bv < 1152921504606846977 then A + Bv else 1152921504606846977) = min 1152921504606846977 (A + Bv) by split <;> omega] at HSN
        obtain ⟨mm, hmin⟩ : ∃ m, min 1152921504606846977 (A + Bv) = m := ⟨_, rfl⟩
        rw [hmin] at HSN
        clear hA hBv
        gi_wp2_with fail
        refine region_then 16 rfl rfl rfl (by kernel_rfl) (by kernel_rfl) (by kernel_rfl) (by kernel_rfl) (by kernel_rfl) (by kernel_rfl) ?_
        dsimp only [List.dropLast]
        repeat (gi_big_quiet_step (fail))
        refine wpQuietIn_nil ?_
        intro _ hw'
        obtain ⟨nq, hw''⟩ := hw'
        subst hw''
        go_simp
        have hbk1 : BK + 1 < V.heap.size := heap_lt H1.out
        refine ⟨(keeps_drewN _ V _).trans (keeps_set _ _ _ _ _), ⟨by simp [size_drewN], fun b hb hx => (heap_setCell_other _ _ _ _ (fun e => hx (.inl e))).trans (heap_drewN _ _ _)⟩, ?_, ?_, ?_, ?_, ?_, ?_, ?_⟩
        · rw [set_heap_same ((heap_drewN _ _ _).trans H1.out), HSN.out]
          congr 2
          simp [List.map_set, List.set_set]
        · exact (heap_setCell_other _ _ _ _ (by show BK ≠ BK + 1; omega)).trans ((heap_drewN _ _ _).trans H2.out)
        · exact (heap_setCell_other _ _ _ _ (by show BB ≠ BK + 1; omega)).trans ((heap_drewN _ _ _).trans H3.out)
        · exact (heap_setCell_other _ _ _ _ (by show B ≠ BK + 1; omega)).trans ((heap_drewN _ _ _).trans H4.out)
        · exact (H5.out.trans ((below_drewN V nq).mono H5.out.size)).setCell (p := ⟨BK + 1, i, none⟩) (by show W0.heap.size ≤ BK + 1; omega) _
        · exact (H6.out.below (below_drewN _ _)).setCell _ _ _
        · have := H7.out; simpa [size_drewN] using this
      case done =>
        rintro D zs V hD rfl ⟨h1, h2, h3, h4, h5, h6, h7⟩ hK
        rw [HRW.out, nowTo_next hil] at h1
        have hm2 := h6.add (D := D) (by omega) (by omega) hK
        have hm3 : Marks w.heap.size V.heap.size ({ target := .collected D, args := #[] } :: ds) V := hm2.mono (by have := heap_lt hK; omega)
        have HM3 := Lib.hid hm3
        have H1 := Lib.hid h1
        have H2 := Lib.hid h2
        have H3 := Lib.hid h3
        have H5 := Lib.hid h5
        have H7 : Hid (BB + 1 ≤ V.heap.size) := Lib.hid (by omega)
        clear h1 h2 h3 h4 h5 h6 h7 hm2 hm3 hK
        gi_wp2_with fail
        refine ⟨⟨i + 1, _, _, _, _, _, _, _, _, _, _, _, _, _, _, _, _, _, _, _, _, _, _, _, _, _, _, _, _, _, _, _, _, _, _, _, _, _, _, _, _, _, _, _, _, _, _, _, _, _, _, _, _, _, _, by omega, ⟨H1.out, H2.out, H3.out, H5.out, H7.out, HM3.out⟩, by rfl⟩, ?_⟩
        simp [intOf]
        omega
      case stop =>
        rintro D c pre V hD hpre h
        exact h.elim
    · have hie : i = 15 := by omega
      subst hie
      have hnx : nowTo rows prev 15 = cntTo rows (k + 1) := by rw [HPREV.out, ← nowTo_done, HL.out]
      rw [hnx] at hnow
      have hcl : (cntTo rows (k + 1)).length = 15 := by rw [cntTo_len]; exact HL.out
      have hbo : W.heap[BO]? = some (.cells #[.slice (some ⟨og, 0, none⟩) (k + 1) ocap] 44 (0, 0)) := (hw0.block BO (heap_lt HBO.out)).trans HBO.out
      have hrow : OwnRow w.heap.size W (.slice (some ⟨BK + 1, 0, none⟩) 15 15) (cntTo rows (k + 1)) := ⟨by simp, .inr ⟨BK + 1, 15, _, by rw [hcl], by omega, hnow, by rw [hcl]; exact Nat.le_refl _, by simp [maxLen], by simp [hcl], by rw [Nat.mul_one, List.take_of_length_le (by simp)]⟩⟩
      obtain ⟨vs, hv1, hv2, hv3⟩ := HCO.out.step hw0
      have hvl : vs.length = k + 1 := by rw [hv2.len, cntsTo_len]
      have c5 := cell_of hbo (j := 0) rfl
      have c7 := cell_of hbb (j := 0) rfl
      have HV1 := Lib.hid hv1
      have HV2 := Lib.hid hv2
      have HV3 := Lib.hid hv3
      have HROW := Lib.hid hrow
      have HBOW := Lib.hid hbo
      have HMKW := Lib.hid hmk
      have HVL : Hid (vs.length ≤ 1000000000) := Lib.hid (by omega)
      have HNX := Lib.hid (cntsTo_next rows (k + 1))
      clear hnow hbk hbb hw0 hsz hmk hnx hbo hrow hv1 hv2 hv3 hvl hcl
      gi_wp2_with (gi_at_builtin; refine append_TIn elem_ints rfl _ _ rfl HV1.out HV3.out.size rfl _ rfl rfl HVL.out ?_; intro v5 w5 hown5 hb5 ho5 hne5; obtain ⟨a5, cap5, hv5⟩ := slice_form hown5; subst hv5; have HB5 := Lib.hid (ho5 _ _ HBOW.out (cells_ne (by decide) _ _)); have c6 := cell_of HB5.out (j := 0) rfl; have f6 := free_of HB5.out 0)
      have hrs := RowsAre.snoc HROW.out HV2.out
      have hst : ∀ e, e ≠ 51 → e ≠ 44 → SameT e W (w5.setCell ⟨BO, 0, none⟩ (.slice a5 (vs.length + 1) cap5)) := fun e h1 h2 => (ho5.sameT h1).trans (SameT.set HB5.out (fun h => h2 h.symm))
      have hmc : MCol w (w5.setCell ⟨BO, 0, none⟩ (.slice a5 (vs.length + 1) cap5)) (.slice a5 (vs.length + 1) cap5) (cntsTo rows (k + 1 + 1)) := ⟨vs ++ [.slice (some ⟨BK + 1, 0, none⟩) 15 15], by have := own_sameT hown5 (SameT.set (j := 0) (v := .slice a5 (vs.length + 1) cap5) HB5.out (by decide)); simpa using this, by rw [HNX.out]; exact hrs.sameT (hst _ (by decide) (by decide)), (HV3.out.trans hb5).setCell (p := ⟨BO, 0, none⟩) hB1 _⟩
      have hmk5 := ((HMKW.out.keep fun q _ _ hq => ho5 q _ hq (fun cs fr e => by cases e)).mono hb5.size).setCell BO 0 (.slice a5 (vs.length + 1) cap5)
      refine ⟨⟨k + 1, _, _, _, _, _, _, _, _, _, _, _, _, _, _, _, _, _, _, _, _, _, _, _, _, _, _, _, _, _, _, _, _, _, _, _, _, _, _, _, _, _, _, _, _, _, _, _, _, _, _, _, _, _, _, _, _, _, _, _, by omega, ⟨set_heap_same HB5.out, hmc, by simpa using hmk5⟩, by rfl⟩, ?_⟩
      simp [intOf]
      omega
  · have hkn2 : k = n := by omega
    subst hkn2
    have HCO := Lib.hid hco
    have HMK := Lib.hid hmk
    have c0 := cell_of hbo (j := 0) rfl
    clear hbo hco hmk hbw ho3 hs1
    gi_wp2_with fail
    refine leave_marks _ _ _ HMK.out fun w' hsh => ?_
    refine ⟨_, results_tmp rfl _ _ _, _, rfl, ?_⟩
    exact HCO.out.shutM hsh
end Go.Proofs.Ytfjbggodniemeaa
