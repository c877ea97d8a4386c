/- tread: Index. (printed by gen_tpidx.py) -/
import Derived.Test.YtfjbggodniemeaaTpCd
set_option linter.unusedVariables false
set_option linter.unusedSimpArgs false
namespace Go.Proofs.Ytfjbggodniemeaa
open Go.RowKit
attribute [local go_sem] Oper.semAt_some

def letterOf (n : Nat) : UInt8 := (97 + n).toUInt8
/-- over the letters that can come: stops at the one that is read -/
def idxStep (prev : List Int) (c : UInt8) : List (Nat × Int) → Int × Nat → Int × Nat
  | [], s => s
  | x :: xs, s => if letterOf x.1 = c then (s.1, x.2.toNat) else idxStep prev c xs (wrap64 (s.1 + gi prev x.2.toNat), s.2)
def idxRun (rows : List (List Int)) (word : List UInt8) : Nat → Int × Nat
  | 0 => (0, 0)
  | k + 1 => idxStep (cntTo rows (word.length - 1 - k)) (word.getD k 0) (stepsL (rows.getD (idxRun rows word k).2 [])) (idxRun rows word k)
def HitAt (B11 : Nat) (prev : List Int) (cc : UInt8) (s : Int × Nat) (pre : List (Nat × Int)) (V : World) : Prop := ∃ pre' x, pre = pre' ++ [x] ∧ (∀ x ∈ pre', ¬ letterOf x.1 = cc) ∧ letterOf x.1 = cc ∧ V.heap[B11]? = some (.cells #[.int .i64 (idxStep prev cc pre' s).1] 3 (0, 0)) ∧ V.heap[B11 + 1]? = some (.cells #[.int .i64 x.2] 3 (0, 0))
def noHit (c : UInt8) (pre : List (Nat × Int)) : Prop := ∀ x ∈ pre, ¬ letterOf x.1 = c
theorem noHit_nil (c : UInt8) : noHit c [] := fun x hx => by cases hx
theorem noHit_snoc {c : UInt8} {pre : List (Nat × Int)} {x : Nat × Int} (h : noHit c pre) (hx : ¬ letterOf x.1 = c) : noHit c (pre ++ [x]) := fun y hy => by
  rcases List.mem_append.1 hy with hy | hy
  · exact h y hy
  · simp only [List.mem_singleton] at hy; subst hy; exact hx
theorem idxStep_append {prev : List Int} {c : UInt8} {rest : List (Nat × Int)} : ∀ {pre : List (Nat × Int)} {s : Int × Nat}, noHit c pre → idxStep prev c (pre ++ rest) s = idxStep prev c rest (idxStep prev c pre s)
  | [], s, _ => rfl
  | x :: pre, s, h => by
    have hx := h x (by simp)
    rw [List.cons_append, idxStep, idxStep, if_neg hx, if_neg hx]
    exact idxStep_append (fun y hy => h y (List.mem_cons_of_mem _ hy))
theorem idxStep_snd {prev : List Int} {c : UInt8} : ∀ {pre : List (Nat × Int)} {s : Int × Nat}, noHit c pre → (idxStep prev c pre s).2 = s.2
  | [], s, _ => rfl
  | x :: pre, s, h => by
    rw [idxStep, if_neg (h x (by simp))]
    exact idxStep_snd (pre := pre) (s := (wrap64 (s.1 + gi prev x.2.toNat), s.2)) (fun y hy => h y (List.mem_cons_of_mem _ hy))
theorem idxStep_snoc {prev : List Int} {c : UInt8} {pre : List (Nat × Int)} {n j : Nat} {s : Int × Nat} (h : noHit c pre) (hx : ¬ letterOf n = c) : idxStep prev c (pre ++ [(n, (j : Int))]) s = (wrap64 ((idxStep prev c pre s).1 + gi prev j), s.2) := by
  rw [idxStep_append h, idxStep, if_neg hx, idxStep, idxStep_snd h]; simp
theorem idxStep_hit {prev : List Int} {c : UInt8} {pre rest : List (Nat × Int)} {x : Nat × Int} {s : Int × Nat} (h : noHit c pre) (hx : letterOf x.1 = c) : idxStep prev c (pre ++ ([x] ++ rest)) s = ((idxStep prev c pre s).1, x.2.toNat) := by
  rw [idxStep_append h]
  show idxStep prev c (x :: rest) _ = _
  rw [idxStep, if_pos hx]
theorem bytes_abc {n : Nat} (h : n < 2) : ByteArray.extract ⟨#[97, 98, 99]⟩ n (n + 1) = ⟨#[letterOf n]⟩ := by
  have : n = 0 ∨ n = 1 := by omega
  rcases this with rfl | rfl <;> decide +kernel
theorem bytes_one (l : List UInt8) (k : Nat) (h : k < l.length) : ByteArray.extract ⟨l.toArray⟩ k (k + 1) = ⟨#[l.getD k 0]⟩ := by
  apply ByteArray.ext
  have e : (l.drop k).take 1 = [l.getD k 0] := by rw [List.drop_eq_getElem_cons h, List.take_succ_cons, List.take_zero]; simp [h]
  rw [ByteArray.data_extract, List.extract_toArray, List.extract_eq_take_drop, show k + 1 - k = 1 by omega, e]
theorem bytes_ne {a b : UInt8} (h : ¬ a = b) : ¬ ((⟨#[a]⟩ : ByteArray) = ⟨#[b]⟩) := fun e => h (by
  have := congrArg (fun x : ByteArray => x.data.toList) e
  simpa using this)
theorem wrap64_eq (z : Int) : IntKind.i64.wrap z = wrap64 z := by
  simp [IntKind.wrap, IntKind.bits, IntKind.signed, wrap64]
  split <;> omega
set_option maxRecDepth 100000 in
set_option maxHeartbeats 12800000 in
theorem Index_any (word : List UInt8) (v : Value) (w : World) (hr : ReadsT w v ss1) (hm : MaxAt w) (hw : word.length ≤ 60) (hwb : wordB word = true) (hav : avoidsB ss1 word = true) (hst : ∀ k, k ≤ word.length → (idxRun rows1 word k).2 < 15) :
    Calls Try.prog 6 #[.int .i64 2, v, sv word] w fun e w' => e = .returned (.tuple #[.int .i64 (idxRun rows1 word word.length).1, .int .i64 0]) ∧ Below w.heap.size w w' := by
  have HR := Lib.hid hr
  have HMX := Lib.hid hm
  have HST := Lib.hid hst
  obtain ⟨vc, vcap, rfl, _, _⟩ := hr
  clear hm hst
  obtain ⟨rows, hrows⟩ : ∃ r, rows1 = r := ⟨_, rfl⟩
  have HRL : Hid (rows.length = 15) := Lib.hid (by rw [← hrows]; exact rows1_len)
  have HRF : Hid (rowsFine rows = true) := Lib.hid (by rw [← hrows]; exact rows1_fine)
  have HRS : Hid (∀ k, k ≤ word.length → gi (cntTo rows k) 0 ≤ 1152921504606846976) := Lib.hid (by rw [← hrows]; exact rows1_small hw)
  have HRM : Hid ((machTo ss1 15).2 = rows ∧ (machTo ss1 15).1.length = 15) := Lib.hid ⟨hrows, (fineM_iff fine1).1⟩
  rw [hrows] at HST ⊢
  clear hrows
  have hal := (Below.refl w.heap.size w).alloc (Nat.le_refl _) (.cells #[sv word] 9)
  have hw5 := heap_alloc_new w (.cells #[sv word] 9)
  have hg1 : ¬ (word.length : Int) > 60 := by omega
  have hg2 : ¬ (60 : Int) < (word.length : Int) := by omega
  refine (callsIn_wide (n := 20)).1 ?_
  refine callsIn_of_wp_marks Try.func6 rfl trivial ?_ rfl
  simp only [Try.ntmps6, List.size_toArray, List.length_cons, List.length_nil, Nat.reduceAdd, Nat.reduceSub, Array.replicate_succ, Array.replicate_zero, List.push_toArray, List.append_toArray, List.nil_append, List.cons_append]
  gi_wp2_with fail
  generalize hWA : World.alloc w _ = WA at *
  refine ⟨trivial, (callsIn_wide.2 (isSet1_any _ _ (HR.out.below hal))).mono ?_⟩
  rintro e w1 ⟨rfl, hb1⟩
  have hb1w := hal.trans (hb1.mono hal.size)
  have hw51 := (hb1.block _ (heap_lt hw5)).trans hw5
  have q1 := cell_of hw51 (j := 0) rfl
  have hwl : w.heap.size < WA.heap.size := heap_lt hw5
  clear hWA hb1 hw5 hal
  gi_wp2_with fail
  clear q1
  refine ⟨trivial, (callsIn_wide.2 (isWord_any word _)).mono ?_⟩
  rintro e w2 ⟨rfl, hb2⟩
  have hb2w := hb1w.trans (hb2.mono hb1w.size)
  have hw52 := (hb2.block _ (heap_lt hw51)).trans hw51
  rw [hwb]
  clear hb1w hw51 hb2
  gi_wp2_with fail
  refine ⟨trivial, (callsIn_wide.2 (newMachine_any ss1 15 _ _ (HR.out.below hb2w) (by decide) (HMX.out.below hb2w) fine1)).mono ?_⟩
  rintro e w3 ⟨sval, nval, rfl, hms, hnr⟩
  rw [HRM.out.1] at hnr
  have hmrd : MRd w3 (w2.heap.size + 1) 15 rows := by
    have := MRd.of hms hnr (by rw [HRM.out.2, HRL.out]) (by rw [HRL.out]; omega)
    rwa [HRM.out.2] at this
  have hb3w := hb2w.trans (hms.b.mono hb2w.size)
  have hw53 := (hms.b.block _ (heap_lt hw52)).trans hw52
  have q3 := cell_of hw53 (j := 0) rfl
  clear hms hnr hb2w hw52
  gi_wp2_with fail
  clear q3
  refine ⟨trivial, (callsIn_wide.2 (counted_any rows (w2.heap.size + 1) word.length _ hmrd HRL.out HRF.out (by omega) HRS.out)).mono ?_⟩
  rintro e w4 ⟨lv, rfl, hco⟩
  obtain ⟨la, lcap, hlv, _, _, _⟩ := hco.open
  rw [cntsTo_len] at hlv
  subst hlv
  have hb4 := hco.below
  have hmrd4 := hmrd.below hb4
  have hb4w := hb3w.trans (hb4.mono hb3w.size)
  have hw54 := (hb4.block _ (heap_lt hw53)).trans hw53
  generalize hP : w2.heap.size + 1 = P at *
  clear hP hb4 hmrd hb3w hw53
  have hal := (Below.refl w4.heap.size w4).alloc (Nat.le_refl _) (.cells #[.slice la (word.length + 1) lcap] 44)
  have hmrd5 := hmrd4.below hal
  have hb5w := hb4w.trans (hal.mono hb4w.size)
  have hw55 := (hal.block _ (heap_lt hw54)).trans hw54
  have hl5 := heap_alloc_new w4 (.cells #[.slice la (word.length + 1) lcap] 44)
  have hco5 := hco.step hal
  have q5 := cell_of hw55 (j := 0) rfl
  clear hal hmrd4 hb4w hw54 hco
  gi_wp2_with fail
  clear q5
  refine ⟨trivial, (callsIn_wide.2 (avoids_any ss1 _ word _ (HR.out.below hb5w) (by decide) (by omega) (HMX.out.below hb5w))).mono ?_⟩
  rintro e w6 ⟨rfl, hb6⟩
  rw [hav]
  have hmrd6 := hmrd5.below hb6
  have hb6w := hb5w.trans (hb6.mono hb5w.size)
  have hw56 := (hb6.block _ (heap_lt hw55)).trans hw55
  have hl6 := (hb6.block _ (heap_lt hl5)).trans hl5
  have hco6 := hco5.step hb6
  have hal := ((Below.refl w6.heap.size w6).alloc (Nat.le_refl _) (.cells #[.int .i64 0] 3)).alloc (by simp) (.cells #[.int .i64 0] 3)
  have h11 : ((w6.alloc (.cells #[.int .i64 0] 3)).alloc (.cells #[.int .i64 0] 3)).heap[w6.heap.size]? = some (.cells #[.int .i64 0] 3 (0, 0)) := alloc_old (heap_alloc_new _ _)
  have h12 : ((w6.alloc (.cells #[.int .i64 0] 3)).alloc (.cells #[.int .i64 0] 3)).heap[w6.heap.size + 1]? = some (.cells #[.int .i64 0] 3 (0, 0)) := heap_alloc_at _ _ _ (by simp)
  have q5 : ((w6.alloc (.cells #[.int .i64 0] 3)).alloc (.cells #[.int .i64 0] 3)).cell? ⟨w.heap.size, 0, none⟩ = some (sv word) := cell_of ((hal.block _ (heap_lt hw56)).trans hw56) (j := 0) rfl
  have hsz6 : ((w6.alloc (.cells #[.int .i64 0] 3)).alloc (.cells #[.int .i64 0] 3)).heap.size = w6.heap.size + 2 := by simp
  clear hmrd5 hb5w hw55 hl5 hco5 hb6
  gi_wp2_with fail
  clear q5
  generalize hB5 : w.heap.size = B5 at *
  generalize hB9 : w4.heap.size = B9 at *
  generalize hW6 : World.alloc (World.alloc w6 _) _ = W6 at *
  clear hW6
  generalize hWW : w6 = WW at *
  generalize hB11 : WW.heap.size = B11 at *
  have HW5 := Lib.hid hw56
  have HL := Lib.hid hl6
  have HCO := Lib.hid hco6
  have HMR := Lib.hid hmrd6
  have hB5l : B5 ≤ B11 := by rw [← hB5, ← hB11]; exact hb6w.size
  have hB5a : w.heap.size ≤ B5 := by omega
  have hB5b : B5 ≤ w.heap.size := by omega
  have hB11a : WW.heap.size ≤ B11 := by omega
  have hB11b : B11 ≤ WW.heap.size := by omega
  have HAL : Hid (Below WW.heap.size WW W6) := Lib.hid (by rw [hB11]; exact hal)
  clear hB5 hB11 hal
  clear hw56 hl6 hco6 hmrd6 hWW hB9
  refine wpIn_loop (fun a' w' => ∃ (k : Nat) (u0 u1 u2 u3 u4 u6 u7 u10 u13 u14 u15 u16 u17 u18 u19 u20 u21 u22 u23 u24 u25 u26 u27 u28 u29 u30 u31 u32 u33 u34 u35 u36 u37 u38 u39 u40 u41 u42 u43 u44 u45 u46 u47 u48 u51 u52 u53 u54 u55 u56 u57 u58 u59 u60 u61 u62 u63 u64 u65 u66 u67 u68 u69 u70 u71 u72 u73 u74 u75 u76 u77 u78 u79 u80 : Value) (ds : List Deferred), k ≤ word.length ∧ (w'.heap[B11]? = some (.cells #[.int .i64 (idxRun rows word k).1] 3 (0, 0)) ∧ w'.heap[B11 + 1]? = some (.cells #[.int .i64 ((idxRun rows word k).2 : Nat)] 3 (0, 0)) ∧ (idxRun rows word k).2 < 15 ∧ Below WW.heap.size WW w' ∧ B11 + 2 ≤ w'.heap.size ∧ Marks w.heap.size w'.heap.size ds w') ∧ a' = { tmps := List.toArray (u0 :: u1 :: u2 :: u3 :: u4 :: (.pointer (some ⟨B5, 0, none⟩)) :: u6 :: u7 :: (.pointer (some ⟨P, 0, none⟩)) :: (.pointer (some ⟨B9, 0, none⟩)) :: u10 :: (.pointer (some ⟨B11, 0, none⟩)) :: (.pointer (some ⟨B11 + 1, 0, none⟩)) :: u13 :: u14 :: u15 :: u16 :: u17 :: u18 :: u19 :: u20 :: u21 :: u22 :: u23 :: u24 :: u25 :: u26 :: u27 :: u28 :: u29 :: u30 :: u31 :: u32 :: u33 :: u34 :: u35 :: u36 :: u37 :: u38 :: u39 :: u40 :: u41 :: u42 :: u43 :: u44 :: u45 :: u46 :: u47 :: u48 :: (.int .i64 (word.length : Nat)) :: (.int .i64 k) :: u51 :: u52 :: u53 :: u54 :: u55 :: u56 :: u57 :: u58 :: u59 :: u60 :: u61 :: u62 :: u63 :: u64 :: u65 :: u66 :: u67 :: u68 :: u69 :: u70 :: u71 :: u72 :: u73 :: u74 :: u75 :: u76 :: u77 :: u78 :: u79 :: u80 :: []), defers := ds }) (fun (a' : Act) (_ : World) => word.length - (intOf (a'.tmps.getD 50 undef)).toNat) ⟨0, _, _, _, _, _, _, _, _, _, _, _, _, _, _, _, _, _, _, _, _, _, _, _, _, _, _, _, _, _, _, _, _, _, _, _, _, _, _, _, _, _, _, _, _, _, _, _, _, _, _, _, _, _, _, _, _, _, _, _, _, _, _, _, _, _, _, _, _, _, _, _, _, _, _, [], by omega, ⟨h11, h12, by show 0 < 15; omega, HAL.out, by omega, trivial⟩, rfl⟩ ?_
  clear h11 h12 hsz6
  rintro a' W ⟨k, u0, u1, u2, u3, u4, u6, u7, u10, u13, u14, u15, u16, u17, u18, u19, u20, u21, u22, u23, u24, u25, u26, u27, u28, u29, u30, u31, u32, u33, u34, u35, u36, u37, u38, u39, u40, u41, u42, u43, u44, u45, u46, u47, u48, u51, u52, u53, u54, u55, u56, u57, u58, u59, u60, u61, u62, u63, u64, u65, u66, u67, u68, u69, u70, u71, u72, u73, u74, u75, u76, u77, u78, u79, u80, ds, hk, ⟨h11, h12, hs15, hbw, hsz, hmk⟩, rfl⟩
  by_cases hkl : k < word.length
  · obtain ⟨st, hstd⟩ : ∃ s0 : Int × Nat, idxRun rows word k = s0 := ⟨_, rfl⟩
    obtain ⟨out0, i⟩ := st
    rw [hstd] at h11 h12 hs15
    simp only at h11 h12 hs15
    obtain ⟨m, hmm⟩ : ∃ m : Nat, word.length - 1 - k = m := ⟨_, rfl⟩
    obtain ⟨prev, hprev⟩ : ∃ p, cntTo rows m = p := ⟨_, rfl⟩
    obtain ⟨cc, hcc⟩ : ∃ c, word.getD k 0 = c := ⟨_, rfl⟩
    obtain ⟨row, hrow⟩ : ∃ r, rows.getD i [] = r := ⟨_, rfl⟩
    have hri : rows[i]? = some row := by rw [← hrow]; simp [HRL.out, hs15]
    have hfr := row_fine HRF.out hri
    have HRUN : Hid (idxRun rows word (k + 1) = idxStep prev cc (stepsL row) (out0, i)) := Lib.hid (by
      show idxStep (cntTo rows (word.length - 1 - k)) (word.getD k 0) (stepsL (rows.getD (idxRun rows word k).2 [])) (idxRun rows word k) = _
      rw [hmm, hprev, hcc, hstd]; simp only; rw [hrow])
    have HS15 := Lib.hid (HST.out (k + 1) hkl)
    have hm2 : (word.length : Int) - 1 - (k : Int) = (m : Int) := by omega
    obtain ⟨_, ng, ncap, hn1', hn2⟩ := HMR.out
    obtain ⟨rowv, hrowc', hrowR⟩ := hn2 i hs15
    rw [hrow] at hrowR
    have hn1 := (hbw.cell (p := ⟨P, 2, none⟩) (World.block_lt_of_cell? _ _ hn1')).trans hn1'
    have hrowc := (hbw.cell (p := ⟨ng, i, none⟩) (World.block_lt_of_cell? _ _ hrowc')).trans hrowc'
    have hal : Below W.heap.size W (W.alloc (.cells #[.int .i64 k] 3)) := (Below.refl _ _).alloc (Nat.le_refl _) _
    have y13 := heap_alloc_new W (.cells #[.int .i64 k] 3)
    have y11 := (hal.block _ (heap_lt h11)).trans h11
    have y12 := (hal.block _ (heap_lt h12)).trans h12
    have ybw := hbw.trans (hal.mono hbw.size)
    have ymk := hmk.below hal
    have yrc := (hal.cell (p := ⟨ng, i, none⟩) (World.block_lt_of_cell? _ _ hrowc)).trans hrowc
    have yn1 := (hal.cell (p := ⟨P, 2, none⟩) (World.block_lt_of_cell? _ _ hn1)).trans hn1
    have hszA : (W.alloc (.cells #[.int .i64 k] 3)).heap.size = W.heap.size + 1 := by simp
    have q12 := cell_of y12 (j := 0) rfl
    clear hn2 hrowc hn1 hrowc' hn1' h11 h12 hbw hmk hal hri
    gi_wp2_with fail
    clear q12
    generalize hWA : World.alloc W _ = WA at *
    generalize hB : W.heap.size = B at *
    clear hWA hB
    refine ⟨trivial, (callsIn_wide.2 (steps_any P i _)).mono ?_⟩
    rintro e w1 ⟨rfl, rfl⟩
    have hal : Below WA.heap.size WA ((WA.alloc (.cells #[.pointer (some ⟨P, 0, none⟩)] 42)).alloc (.cells #[.int .i64 i] 3)) := ((Below.refl _ _).alloc (Nat.le_refl _) _).alloc (by simp) _
    have hb1 : ((WA.alloc (.cells #[.pointer (some ⟨P, 0, none⟩)] 42)).alloc (.cells #[.int .i64 i] 3)).heap[WA.heap.size]? = some (.cells #[.pointer (some ⟨P, 0, none⟩)] 42) := alloc_old (heap_alloc_new _ _)
    have hb2 : ((WA.alloc (.cells #[.pointer (some ⟨P, 0, none⟩)] 42)).alloc (.cells #[.int .i64 i] 3)).heap[WA.heap.size + 1]? = some (.cells #[.int .i64 i] 3) := heap_alloc_at _ _ _ (by simp)
    have x13 := (hal.block _ (heap_lt y13)).trans y13
    have x11 := (hal.block _ (heap_lt y11)).trans y11
    have x12 := (hal.block _ (heap_lt y12)).trans y12
    have xbw := ybw.trans (hal.mono ybw.size)
    have xmk := ymk.below hal
    have xrc := (hal.cell (p := ⟨ng, i, none⟩) (World.block_lt_of_cell? _ _ yrc)).trans yrc
    have xn1 := (hal.cell (p := ⟨P, 2, none⟩) (World.block_lt_of_cell? _ _ yn1)).trans yn1
    have hszB : ((WA.alloc (.cells #[.pointer (some ⟨P, 0, none⟩)] 42)).alloc (.cells #[.int .i64 i] 3)).heap.size = B + 3 := by simp [hszA]
    rw [hszA] at hb1 hb2 ⊢
    generalize hWB : World.alloc (World.alloc WA _) _ = WB at *
    clear hWB hal y13 y11 y12 ybw ymk yrc yn1 hszA
    gi_wp2_with fail
    have hnX : ∀ b, b < B11 → b < WB.heap.size ∧ ¬ (b = B11 ∨ b = B11 + 1 ∨ b = WB.heap.size ∨ b = WB.heap.size + 1) := fun b hb => by rw [hszB]; omega
    have hrr : ReadsS (fun b => b < WB.heap.size ∧ ¬ (b = B11 ∨ b = B11 + 1 ∨ b = WB.heap.size ∨ b = WB.heap.size + 1)) WB rowv row := (ReadsS.same (S := fun b => b < WW.heap.size) hrowR.s0 (SameS.of_below xbw (fun _ h => h))).mono (fun b hb => hnX b (by omega))
    obtain ⟨la', lcap', hlv, _, _, hrows3⟩ := HCO.out.open
    rw [cntsTo_len] at hlv hrows3
    cases hlv
    obtain ⟨lg, lrv, hla, hlg, hlc, hlr⟩ := hrows3 m (by omega)
    subst hla
    rw [cntsTo_get (by omega), hprev] at hlr
    have hpl : prev.length = 15 := by rw [← hprev, cntTo_len]; exact HRL.out
    obtain ⟨ra, rcap, rfl, _, _, hr3⟩ := hlr.reads
    obtain ⟨rb, roff, rfl, hrb, hrc⟩ := hr3.resolve_left (by intro e; rw [e] at hpl; simp at hpl)
    rw [hpl] at hrc hlc
    have HLC := Lib.hid hlc
    have HRC := Lib.hid hrc
    have he2 : ByteArray.extract ⟨word.toArray⟩ k (k + 1) = ⟨#[cc]⟩ := by
      rw [← hcc]; exact bytes_one word k hkl
    clear hrows3 hlr hr3 hlc hrc
    refine range_imgs (gf := 30) (lb := #[.pointer (some ⟨B + 1, 0, none⟩), .pointer (some ⟨B + 1 + 1, 0, none⟩)]) rfl (enters_of Try.func30 (by kernel_rfl) rfl)
      (given_B (steps1_given (fun b => b = B11 ∨ b = B11 + 1 ∨ b = WB.heap.size ∨ b = WB.heap.size + 1) row P (B + 1) (B + 1 + 1) ng 15 ncap i _ rowv WB (fun b hb => by omega) hb1 hb2 xn1 xrc hs15 hrr (by have := hfr.1; omega)))
      (fun A => KeepX.refl _ _) (fun h k => KeepX.trans h k) (fun W o' => KeepX.putObj (.inr (.inr (.inr rfl)))) (fun _ => rfl)
      (fun pre V => noHit cc pre ∧ V.heap[B11]? = some (.cells #[.int .i64 (idxStep prev cc pre (out0, i)).1] 3 (0, 0)) ∧ V.heap[B11 + 1]? = some (.cells #[.int .i64 i] 3 (0, 0)) ∧ V.heap[B]? = some (.cells #[.int .i64 k] 3 (0, 0)) ∧ Below WW.heap.size WW V ∧ Marks w.heap.size B ds V ∧ B + 3 ≤ V.heap.size)
      (fun c pre V => c = .exit 2 ∧ HitAt B11 prev cc (out0, i) pre V ∧ Below WW.heap.size WW V ∧ Marks w.heap.size B ds V ∧ B + 3 ≤ V.heap.size)
      ?a1 ?hI ?hIx ?hIB ⟨noHit_nil cc, x11, x12, x13, xbw, xmk, by omega⟩ ?assign ?body (fun pre x a' s W W' row h _ _ => h) ?done ?stop
    case assign =>
      intro l x W K hK
      simp only [stepEnc]
      gi_wp2
      exact hK
    case hI =>
      rintro s' V V' row' ⟨h0, h1, h2, h4, h5, h6, h7⟩ hg hr
      exact ⟨h0, own_block hg hr (by omega) h1, own_block hg hr (by omega) h2, own_block hg hr (by omega) h4, h5.grown hg h5.size (fun q e => by have := (hr q e).1; omega), h6.grown hg (fun q e => by have := (hr q e).1; omega), Nat.le_trans h7 hg.size⟩
    case hIx =>
      rintro c s' V V' row' ⟨h0, ⟨pre', x, g1, g2, g3, g4, g5⟩, h5, h6, h7⟩ hg hr
      exact ⟨h0, ⟨pre', x, g1, g2, g3, own_block hg hr (by omega) g4, own_block hg hr (by omega) g5⟩, h5.grown hg h5.size (fun q e => by have := (hr q e).1; omega), h6.grown hg (fun q e => by have := (hr q e).1; omega), Nat.le_trans h7 hg.size⟩
    case hIB =>
      rintro s' V b j v hb ⟨h0, h1, h2, h4, h5, h6, h7⟩
      exact ⟨h0, (heap_setCell_other _ _ _ _ (by show B11 ≠ b; omega)).trans h1, (heap_setCell_other _ _ _ _ (by show B11 + 1 ≠ b; omega)).trans h2, (heap_setCell_other _ _ _ _ (by show B ≠ b; omega)).trans h4, h5.setCell (p := ⟨b, j, none⟩) (by show WW.heap.size ≤ b; omega) _, h6.setCell _ _ _, by simpa using h7⟩
    case body =>
      rintro l pre ⟨c, jj⟩ V hl' ⟨h0, h1, h2, h4, h5, h6, h7⟩ hpx
      have hmem : (c, jj) ∈ stepsL row := hpx.subset (by simp)
      obtain ⟨hc2, hj0, hj15⟩ := hfr.2 _ hmem
      obtain ⟨j, rfl⟩ : ∃ j : Nat, jj = (j : Int) := ⟨jj.toNat, by simp only at hj0; omega⟩
      have hj15' : j < 15 := by rw [HRL.out] at hj15; simpa using hj15
      have he1 := bytes_abc hc2
      have q5 := cell_of ((h5.block B5 (heap_lt HW5.out)).trans HW5.out) (j := 0) rfl
      have q13 := cell_of h4 (j := 0) rfl
      have k0 : (0 : Int) ≤ (k : Int) := by omega
      have k1 : (k : Int) ≤ (k : Int) + 1 := by omega
      have k2 : (k : Int) + 1 ≤ (word.length : Int) := by omega
      have H0 := Lib.hid h0
      have H1 := Lib.hid h1
      have H2 := Lib.hid h2
      have H4 := Lib.hid h4
      have H5 := Lib.hid h5
      have H6 := Lib.hid h6
      have H7 : Hid (B + 3 ≤ V.heap.size) := Lib.hid h7
      have q12 := cell_of h2 (j := 0) rfl
      have f12 := free_of h2 0
      have hb12 : B11 + 1 < V.heap.size := heap_lt h2
      clear hmem hj0 hj15 hpx h0 h1 h2 h4 h5 h6 h7
      by_cases hhit : letterOf c = cc
      · rw [hhit] at he1
        have HHIT := Lib.hid hhit
        clear hhit
        gi_wp2_with fail
        refine ⟨keeps_set _ _ _ _ _, ⟨by simp, fun b hb hx => heap_setCell_other _ _ _ _ (fun e => hx (.inr (.inl e)))⟩, rfl, ⟨pre, (c, (j : Int)), rfl, H0.out, HHIT.out, (heap_setCell_other _ _ _ _ (by show B11 ≠ B11 + 1; omega)).trans H1.out, set_heap_same H2.out⟩, H5.out.setCell (p := ⟨B11 + 1, 0, none⟩) (by show WW.heap.size ≤ B11 + 1; omega) _, H6.out.setCell _ _ _, by have := H7.out; simpa using this⟩
      · have hne := bytes_ne hhit
        have HSN : Hid (idxStep prev cc (pre ++ [(c, (j : Int))]) (out0, i) = (wrap64 ((idxStep prev cc pre (out0, i)).1 + gi prev j), i)) := Lib.hid (idxStep_snoc H0.out hhit)
        have HNH : Hid (noHit cc (pre ++ [(c, (j : Int))])) := Lib.hid (noHit_snoc H0.out hhit)
        have q11 := cell_of H1.out (j := 0) rfl
        have f11 := free_of H1.out 0
        have q9 := cell_of ((H5.out.block B9 (heap_lt HL.out)).trans HL.out) (j := 0) rfl
        have qr := (H5.out.cell (p := ⟨lg, m, none⟩) hlg).trans HLC.out
        have qe := (H5.out.cell (p := ⟨rb, roff + j, none⟩) hrb).trans (HRC.out j hj15')
        have hb11 : B11 < V.heap.size := heap_lt H1.out
        have m0 : (0 : Int) ≤ (m : Int) := by omega
        have m1 : (m : Int) < ((word.length + 1 : Nat) : Int) := by omega
        have j0 : (0 : Int) ≤ (j : Int) := by omega
        have j1 : (j : Int) < 15 := by omega
        have hwa : IntKind.i64.wrap ((word.length : Int) - 1) = (word.length : Int) - 1 := wrapZ (by omega) (by omega)
        have hwc : IntKind.i64.wrap ((word.length : Int) - 1 - (k : Int)) = (m : Int) := by rw [hm2]; exact wrapZ (by omega) (by omega)
        have hwd : IntKind.i64.wrap (m : Int) = (m : Int) := wrapZ (by omega) (by omega)
        generalize (idxStep prev cc pre (out0, i)).1 = A at *
        generalize gi prev j = Bv at *
        have hws2 : IntKind.i64.wrap (A + Bv) = wrap64 (A + Bv) := wrap64_eq _
        obtain ⟨S, hS⟩ : ∃ S, wrap64 (A + Bv) = S := ⟨_, rfl⟩
        rw [hS] at HSN hws2
        have hbq : (letterOf c == cc) = false := by rw [beq_eq_false_iff_ne]; exact hhit
        have hbq2 : decide (letterOf c = cc) = false := decide_eq_false hhit
        gi_wp2_with fail
        refine region_then 13 rfl rfl rfl (by kernel_rfl) (by kernel_rfl) (by kernel_rfl) (by kernel_rfl) (by kernel_rfl) (by kernel_rfl) ?_
        dsimp only [List.dropLast]
        repeat (gi_big_quiet_step (fail))
        refine wpQuietIn_nil ?_
        intro _ hw'
        obtain ⟨nq, hw''⟩ := hw'
        subst hw''
        go_simp
        refine ⟨(keeps_drewN _ V _).trans (keeps_set _ _ _ _ _), ⟨by simp [size_drewN], fun b hb hx => (heap_setCell_other _ _ _ _ (fun e => hx (.inl e))).trans (heap_drewN _ _ _)⟩, HNH.out, ?_, ?_, ?_, ?_, ?_, ?_⟩
        · rw [HSN.out]; exact set_heap_same ((heap_drewN _ _ _).trans H1.out)
        · exact (heap_setCell_other _ _ _ _ (by show B11 + 1 ≠ B11; omega)).trans ((heap_drewN _ _ _).trans H2.out)
        · exact (heap_setCell_other _ _ _ _ (by show B ≠ B11; omega)).trans ((heap_drewN _ _ _).trans H4.out)
        · exact (H5.out.trans ((below_drewN V nq).mono H5.out.size)).setCell (p := ⟨B11, 0, none⟩) (by show WW.heap.size ≤ B11; omega) _
        · exact (H6.out.below (below_drewN _ _)).setCell _ _ _
        · have := H7.out; simpa [size_drewN] using this
    case done =>
      rintro D zs V hD rfl ⟨h0, h1, h2, h4, h5, h6, h7⟩ hK
      have hm2 := h6.add (D := D) (by omega) (by omega) hK
      have HM3 : Hid (Marks w.heap.size V.heap.size ({ target := .collected D, args := #[] } :: ds) V) := Lib.hid (hm2.mono (by have := heap_lt hK; omega))
      have hsd := idxStep_snd (prev := prev) (s := (out0, i)) h0
      have hr1 := HRUN.out
      have H1 : Hid (V.heap[B11]? = some (.cells #[.int .i64 (idxRun rows word (k + 1)).1] 3 (0, 0))) := Lib.hid (by rw [hr1]; exact h1)
      have H2 : Hid (V.heap[B11 + 1]? = some (.cells #[.int .i64 ((idxRun rows word (k + 1)).2 : Nat)] 3 (0, 0))) := Lib.hid (by rw [hr1, hsd]; exact h2)
      have H5 := Lib.hid h5
      have H7 : Hid (B11 + 2 ≤ V.heap.size) := Lib.hid (by omega)
      clear h0 h1 h2 h4 h5 h6 h7 hm2 hK hr1 hsd
      gi_wp2_with fail
      refine ⟨⟨k + 1, _, _, _, _, _, _, _, _, _, _, _, _, _, _, _, _, _, _, _, _, _, _, _, _, _, _, _, _, _, _, _, _, _, _, _, _, _, _, _, _, _, _, _, _, _, _, _, _, _, _, _, _, _, _, _, _, _, _, _, _, _, _, _, _, _, _, _, _, _, _, _, _, _, _, _, by omega, ⟨H1.out, H2.out, HS15.out, H5.out, H7.out, HM3.out⟩, by rfl⟩, ?_⟩
      simp [intOf]
      omega
    case stop =>
      rintro D c pre V hD hpre ⟨rfl, ⟨pre', x, g1, g2, g3, g4, g5⟩, h5, h6, h7⟩ hK
      have hm2 := h6.add (D := D) (by omega) (by omega) hK
      have HM3 : Hid (Marks w.heap.size V.heap.size ({ target := .collected D, args := #[] } :: ds) V) := Lib.hid (hm2.mono (by have := heap_lt hK; omega))
      obtain ⟨rest, hrest⟩ := hpre
      have hst2 : idxStep prev cc (stepsL row) (out0, i) = ((idxStep prev cc pre' (out0, i)).1, x.2.toNat) := by
        rw [← hrest, g1, List.append_assoc]; exact idxStep_hit g2 g3
      have hr1 := HRUN.out
      rw [hst2] at hr1
      have hx0 : 0 ≤ x.2 := (hfr.2 x (by rw [← hrest, g1]; simp)).2.1
      have H1 : Hid (V.heap[B11]? = some (.cells #[.int .i64 (idxRun rows word (k + 1)).1] 3 (0, 0))) := Lib.hid (by rw [hr1]; exact g4)
      have H2 : Hid (V.heap[B11 + 1]? = some (.cells #[.int .i64 ((idxRun rows word (k + 1)).2 : Nat)] 3 (0, 0))) := Lib.hid (by rw [hr1]; simp only; rw [show ((x.2.toNat : Nat) : Int) = x.2 by omega]; exact g5)
      have H5 := Lib.hid h5
      have H7 : Hid (B11 + 2 ≤ V.heap.size) := Lib.hid (by omega)
      clear g1 g2 g3 g4 g5 h5 h6 h7 hm2 hK hr1 hst2 hrest
      gi_wp2_with fail
      refine ⟨⟨k + 1, _, _, _, _, _, _, _, _, _, _, _, _, _, _, _, _, _, _, _, _, _, _, _, _, _, _, _, _, _, _, _, _, _, _, _, _, _, _, _, _, _, _, _, _, _, _, _, _, _, _, _, _, _, _, _, _, _, _, _, _, _, _, _, _, _, _, _, _, _, _, _, _, _, _, _, by omega, ⟨H1.out, H2.out, HS15.out, H5.out, H7.out, HM3.out⟩, by rfl⟩, ?_⟩
      simp [intOf]
      omega
  · have hke : k = word.length := by omega
    subst hke
    have HMK := Lib.hid hmk
    have HBW : Hid (Below w.heap.size w W) := Lib.hid ((hb6w.mono hB5a).trans (hbw.mono hb6w.size))
    have q11 := cell_of h11 (j := 0) rfl
    clear h11 h12 hbw hmk
    gi_wp2_with fail
    refine leave_marks _ _ _ HMK.out fun w' hsh => ?_
    exact ⟨_, results_tmp2 rfl _ _ _, rfl, HBW.out.trans hsh.below⟩
end Go.Proofs.Ytfjbggodniemeaa
