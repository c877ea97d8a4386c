/- tread: Item. (printed by gen_tpitm.py) -/
import Derived.Test.YtfjbggodniemeaaTpIdx
set_option linter.unusedVariables false
set_option linter.unusedSimpArgs false
namespace Go.Proofs.Ytfjbggodniemeaa
open Go.RowKit
attribute [local go_sem] Oper.semAt_some

def itmStep (prev : List Int) : List (Nat × Int) → Int × List UInt8 × Nat → Int × List UInt8 × Nat
  | [], s => s
  | x :: xs, s => if s.1 < gi prev x.2.toNat then (s.1, s.2.1 ++ [letterOf x.1], x.2.toNat) else itmStep prev xs (wrap64 (s.1 - gi prev x.2.toNat), s.2)
def itmRun (rows : List (List Int)) (n : Nat) (K : Int) : Nat → Int × List UInt8 × Nat
  | 0 => (K, [], 0)
  | t + 1 => itmStep (cntTo rows (n - 1 - t)) (stepsL (rows.getD (itmRun rows n K t).2.2 [])) (itmRun rows n K t)
/-- what is left of the position when none of the letters was the one; none: one was -/
def itmMiss (prev : List Int) : List (Nat × Int) → Int → Option Int
  | [], k => some k
  | x :: xs, k => if k < gi prev x.2.toNat then none else itmMiss prev xs (wrap64 (k - gi prev x.2.toNat))
theorem itmStep_append {prev : List Int} {rest : List (Nat × Int)} : ∀ {pre : List (Nat × Int)} {k k1 : Int} {s : List UInt8 × Nat}, itmMiss prev pre k = some k1 → itmStep prev (pre ++ rest) (k, s) = itmStep prev rest (k1, s)
  | [], k, k1, s, h => by cases h; rfl
  | x :: pre, k, k1, s, h => by
    rw [itmMiss] at h
    split at h
    · cases h
    · rename_i hx
      rw [List.cons_append, itmStep, if_neg hx]
      exact itmStep_append h
theorem itmStep_miss {prev : List Int} {pre : List (Nat × Int)} {k k1 : Int} {s : List UInt8 × Nat} (h : itmMiss prev pre k = some k1) : itmStep prev pre (k, s) = (k1, s) := by
  have := itmStep_append (rest := []) (s := s) h
  rw [List.append_nil] at this
  exact this
theorem itmStep_hit {prev : List Int} {pre rest : List (Nat × Int)} {x : Nat × Int} {k k1 : Int} {o : List UInt8} {i : Nat} (h : itmMiss prev pre k = some k1) (hx : k1 < gi prev x.2.toNat) : itmStep prev (pre ++ ([x] ++ rest)) (k, o, i) = (k1, o ++ [letterOf x.1], x.2.toNat) := by
  rw [itmStep_append h]
  show itmStep prev (x :: rest) _ = _
  rw [itmStep, if_pos hx]
theorem itmMiss_snoc {prev : List Int} {n j : Nat} : ∀ {pre : List (Nat × Int)} {k k1 : Int}, itmMiss prev pre k = some k1 → ¬ k1 < gi prev j → itmMiss prev (pre ++ [(n, (j : Int))]) k = some (wrap64 (k1 - gi prev j))
  | [], k, k1, h, hx => by
    cases h
    show itmMiss prev [(n, (j : Int))] k = _
    rw [itmMiss, if_neg (by simpa using hx)]
    simp [itmMiss]
  | x :: pre, k, k1, h, hx => by
    rw [itmMiss] at h
    split at h
    · cases h
    · rename_i hx2
      rw [List.cons_append, itmMiss, if_neg hx2]
      exact itmMiss_snoc h hx

def MissAt (B7 : Nat) (prev : List Int) (k0 : Int) (pre : List (Nat × Int)) (V : World) : Prop := ∃ k1, itmMiss prev pre k0 = some k1 ∧ V.heap[B7]? = some (.cells #[.int .i64 k1] 3 (0, 0))
def HitI (B7 BS : Nat) (prev : List Int) (k0 : Int) (o : List UInt8) (pre : List (Nat × Int)) (V : World) : Prop := ∃ pre' x k1, pre = pre' ++ [x] ∧ itmMiss prev pre' k0 = some k1 ∧ k1 < gi prev x.2.toNat ∧ V.heap[B7]? = some (.cells #[.int .i64 k1] 3 (0, 0)) ∧ V.heap[BS]? = some (.cells #[sv (o ++ [letterOf x.1])] 9 (0, 0)) ∧ V.heap[BS + 1]? = some (.cells #[.int .i64 x.2] 3 (0, 0))

/-- the machine's memory lies at L and above -/
structure MRdL (w : World) (P T : Nat) (rows : List (List Int)) (L : Nat) : Prop where
  base : MRd w P T rows
  pl : L ≤ P
  nxt : ∃ g cap, L ≤ g ∧ w.cell? ⟨P, 2, none⟩ = some (.slice (some ⟨g, 0, none⟩) T cap) ∧ ∀ i, i < T → ∃ rv, w.cell? ⟨g, i, none⟩ = some rv ∧ ReadsS (fun b => L ≤ b ∧ b < w.heap.size) w rv (rows.getD i [])
theorem OwnRow.readsL {base : Nat} {w : World} {v : Value} {xs : List Int} (h : OwnRow base w v xs) : ReadsS (fun b => base ≤ b ∧ b < w.heap.size) w v xs := by
  obtain ⟨a, cap, rfl, h1, h2, h3⟩ := h.reads
  refine ⟨a, cap, rfl, h1, h2, h3.imp id ?_⟩
  rintro ⟨b, off, rfl, hlt, hc⟩
  exact ⟨b, off, rfl, ⟨(World.ownsRow.lt h b rfl).1, hlt⟩, hc⟩
theorem MRdL.of {w0 w : World} {sval nval : Value} {st : List (List UInt8)} {rows : List (List Int)} (h : MS w0 w sval nval st) (hn : NR w0.heap.size w nval rows) (hl : rows.length = st.length) (h0 : 0 < rows.length) : MRdL w (w0.heap.size + 1) st.length rows w0.heap.size := by
  refine ⟨MRd.of h hn hl h0, by omega, ?_⟩
  obtain ⟨vs, hv1, hv2⟩ := hn
  have hvl := hv2.len
  obtain ⟨_, h1 | ⟨g, cap2, cur, h1, h2, h3, h4, h5, h6, h7⟩⟩ := id hv1
  · have := h1.2; omega
  · refine ⟨g, cap2, h2, ?_, fun i hi => ?_⟩
    · rw [cell_of h.m (j := 2) rfl]
      rw [h1, hvl, hl]; rfl
    · obtain ⟨rv, h8, h9⟩ := hv2.at i (by omega)
      refine ⟨rv, ?_, h9.readsL⟩
      subst h1
      rw [hv1.cellAt i (by omega)]
      simpa using h8
theorem itmStep_len {prev : List Int} : ∀ (ss : List (Nat × Int)) (s : Int × List UInt8 × Nat), (itmStep prev ss s).2.1.length ≤ s.2.1.length + 1
  | [], s => by show s.2.1.length ≤ _; omega
  | x :: ss, s => by
    rw [itmStep]
    split
    · simp
    · exact itmStep_len ss _
theorem itmRun_len (rows : List (List Int)) (n : Nat) (K : Int) : ∀ t, (itmRun rows n K t).2.1.length ≤ t
  | 0 => Nat.le_refl _
  | t + 1 => Nat.le_trans (itmStep_len _ _) (by have := itmRun_len rows n K t; omega)
theorem MRdL.below {w w' : World} {P T L : Nat} {rows : List (List Int)} (h : MRdL w P T rows L) (hb : Below w.heap.size w w') : MRdL w' P T rows L := by
  obtain ⟨g, cap, h1, h2, h3⟩ := h.nxt
  refine ⟨h.base.below hb, h.pl, g, cap, h1, (hb.cell (p := ⟨P, 2, none⟩) (World.block_lt_of_cell? _ _ h2)).trans h2, fun i hi => ?_⟩
  obtain ⟨rv, h4, h5⟩ := h3 i hi
  refine ⟨rv, (hb.cell (p := ⟨g, i, none⟩) (World.block_lt_of_cell? _ _ h4)).trans h4, ?_⟩
  exact (ReadsS.same h5 (SameS.of_below hb (fun _ h => h.2))).mono fun b hb2 => ⟨hb2.1, Nat.lt_of_lt_of_le hb2.2 hb.size⟩
theorem keepX_grown {X : Nat → Prop} {W V V' : World} {row : Option Nat} (h : KeepX X W V) (hg : V.grownBy V' row) (hr : ∀ q, row = some q → W.heap.size ≤ q) : KeepX X W V' :=
  ⟨Nat.le_trans h.1 hg.size, fun b hb hx => (hg.block b (Nat.lt_of_lt_of_le hb h.1) (fun e => by have := hr b e.symm; omega)).trans (h.2 b hb hx)⟩
theorem keepX_set {X : Nat → Prop} {W V : World} {b j : Nat} (h : KeepX X W V) (hb : W.heap.size ≤ b) (v : Value) : KeepX X W (V.setCell ⟨b, j, none⟩ v) :=
  ⟨by rw [World.size_setCell]; exact h.1, fun q hq hx => (heap_setCell_other _ _ _ _ (by show q ≠ b; omega)).trans (h.2 q hq hx)⟩
def leftOf (a : Act) (w : World) : Nat := match a.tmps.getD 15 undef with
  | .pointer (some p) => match w.cell? p with
    | some (.int _ c) => (c + 1).toNat
    | _ => 0
  | _ => 0
theorem leftOf_eq {a : Act} {w : World} {p : Addr} {kd : IntKind} {c : Int} (h1 : a.tmps.getD 15 undef = .pointer (some p)) (h2 : w.cell? p = some (.int kd c)) : leftOf a w = (c + 1).toNat := by
  unfold leftOf; rw [h1]; simp only; rw [h2]
section
variable {V : World} {v : Value} {t : TypeId}
theorem rec_old {q : Nat} {ob : Obj} (h : V.heap[q]? = some ob) : (V.alloc (.cells #[v] t)).heap[q]? = some ob := alloc_old h
theorem rec_new : (V.alloc (.cells #[v] t)).heap[V.heap.size]? = some (.cells #[v] t (0, 0)) := heap_alloc_new V (.cells #[v] t)
theorem rec_below {w : World} (h : Below w.heap.size w V) : Below w.heap.size w (V.alloc (.cells #[v] t)) := h.alloc h.size _
theorem rec_keep {X : Nat → Prop} {W : World} (h : KeepX X W V) : KeepX X W (V.alloc (.cells #[v] t)) := h.trans (KeepX.of_below ((Below.refl V.heap.size V).alloc (Nat.le_refl _) (.cells #[v] t)))
theorem rec_marks {w : World} {ds : List Deferred} (h : Marks w.heap.size V.heap.size ds V) : Marks w.heap.size (V.alloc (.cells #[v] t)).heap.size ds (V.alloc (.cells #[v] t)) :=
  (h.below ((Below.refl V.heap.size V).alloc (Nat.le_refl _) (.cells #[v] t))).mono (by simp)
end
set_option maxRecDepth 100000 in
set_option maxHeartbeats 12800000 in
theorem Item_any (n : Nat) (K : Int) (v : Value) (w : World) (hr : ReadsT w v ss1) (hm : MaxAt w) (hn : n ≤ 60) (hK0 : 0 ≤ K) (hK1 : K ≤ gi (cntTo rows1 n) 0 - 1) (hst : ∀ t, t ≤ n → (itmRun rows1 n K t).2.2 < 15) :
    Calls Try.prog 7 #[.int .i64 2, v, .int .i64 n, .int .i64 K] w fun e w' => e = .returned (.tuple #[sv (itmRun rows1 n K n).2.1, .int .i64 0]) ∧ Below w.heap.size w w' := by
  have HR := Lib.hid hr
  have HMX := Lib.hid hm
  have HST := Lib.hid hst
  obtain ⟨vc, vcap, rfl, _, _⟩ := hr
  clear hm hst
  obtain ⟨rows, hrows⟩ : ∃ r, rows1 = r := ⟨_, rfl⟩
  have HRL : Hid (rows.length = 15) := Lib.hid (by rw [← hrows]; exact rows1_len)
  have HRF : Hid (rowsFine rows = true) := Lib.hid (by rw [← hrows]; exact rows1_fine)
  have HRS : Hid (∀ k, k ≤ n → gi (cntTo rows k) 0 ≤ 1152921504606846976) := Lib.hid (by rw [← hrows]; exact rows1_small hn)
  have HRM : Hid ((machTo ss1 15).2 = rows ∧ (machTo ss1 15).1.length = 15) := Lib.hid ⟨hrows, (fineM_iff fine1).1⟩
  rw [hrows] at HST hK1 ⊢
  clear hrows
  have HK : Hid (0 ≤ K ∧ K ≤ gi (cntTo rows n) 0 - 1) := Lib.hid ⟨hK0, hK1⟩
  clear hK0 hK1
  have hal := (Below.refl w.heap.size w).alloc (Nat.le_refl _) (.cells #[.int .i64 K] 3)
  have hw7 : (w.alloc (.cells #[.int .i64 K] 3)).heap[w.heap.size]? = some (.cells #[.int .i64 K] 3 (0, 0)) := heap_alloc_new w (.cells #[.int .i64 K] 3)
  have HWI : Hid (∀ W : World, Calls Try.prog 18 #[.int .i64 n, .int .i64 0, .int .i64 60] W fun e w' => e = .returned (.bool true) ∧ W = w') := Lib.hid (fun W => by
    have := withinT_any (n : Int) 0 60 W
    rwa [show withinB (n : Int) 0 60 = true by simp [withinB]; omega] at this)
  refine (callsIn_wide (n := 20)).1 ?_
  refine callsIn_of_wp_marks Try.func7 rfl trivial ?_ rfl
  simp only [Try.ntmps7, List.size_toArray, List.length_cons, List.length_nil, Nat.reduceAdd, Nat.reduceSub, Array.replicate_succ, Array.replicate_zero, List.push_toArray, List.append_toArray, List.nil_append, List.cons_append]
  gi_wp2_with fail
  generalize hWA : World.alloc w _ = WA at *
  refine ⟨trivial, (callsIn_wide.2 (isSet1_any _ _ (HR.out.below hal))).mono ?_⟩
  rintro e w1 ⟨rfl, hb1⟩
  have hb1w := hal.trans (hb1.mono hal.size)
  have hw71 := (hb1.block _ (heap_lt hw7)).trans hw7
  have hwl : w.heap.size < WA.heap.size := heap_lt hw7
  have hwl1 : w.heap.size + 1 ≤ w1.heap.size := by have := hb1.size; omega
  clear hWA hb1 hw7 hal
  gi_wp2_with fail
  refine ⟨trivial, (callsIn_wide.2 (HWI.out _)).mono ?_⟩
  rintro e w2 ⟨rfl, rfl⟩
  gi_wp2_with fail
  refine ⟨trivial, (callsIn_wide.2 (newMachine_any ss1 15 _ _ (HR.out.below hb1w) (by decide) (HMX.out.below hb1w) fine1)).mono ?_⟩
  rintro e w3 ⟨sval, nval, rfl, hms, hnr⟩
  rw [HRM.out.1] at hnr
  have hmrd : MRdL w3 (w1.heap.size + 1) 15 rows w1.heap.size := by
    have := MRdL.of hms hnr (by rw [HRM.out.2, HRL.out]) (by rw [HRL.out]; omega)
    rwa [HRM.out.2] at this
  have hb3w := hb1w.trans (hms.b.mono hb1w.size)
  have hw73 := (hms.b.block _ (heap_lt hw71)).trans hw71
  have hs13 := hms.b.size
  clear hms hnr hb1w hw71
  gi_wp2_with fail
  refine ⟨trivial, (callsIn_wide.2 (counted_any rows (w1.heap.size + 1) n _ hmrd.base HRL.out HRF.out (by omega) HRS.out)).mono ?_⟩
  rintro e w4 ⟨lv, rfl, hco⟩
  obtain ⟨la, lcap, hlv, _, _, hrows3⟩ := hco.open
  rw [cntsTo_len] at hlv hrows3
  subst hlv
  have hb4 := hco.below
  have hB97 : w.heap.size + 1 ≤ w4.heap.size := by have := hb4.size; omega
  have hB97' : w.heap.size + 1 ≤ w3.heap.size := by omega
  have hmrd4 := hmrd.below hb4
  have hb4w := hb3w.trans (hb4.mono hb3w.size)
  have hw74 := (hb4.block _ (heap_lt hw73)).trans hw73
  generalize hP : w1.heap.size + 1 = P at *
  clear hP hmrd hb3w hw73
  have hal := (Below.refl w4.heap.size w4).alloc (Nat.le_refl _) (.cells #[.slice la (n + 1) lcap] 44)
  have hmrd5 := hmrd4.below hal
  have hb5w := hb4w.trans (hal.mono hb4w.size)
  have hw75 := (hal.block _ (heap_lt hw74)).trans hw74
  have hl5 := heap_alloc_new w4 (.cells #[.slice la (n + 1) lcap] 44)
  have hco5 := hco.step hal
  obtain ⟨lg0, lrv0, hla0, hlg0, hlc0, hlr0⟩ := hrows3 n (by omega)
  subst hla0
  rw [cntsTo_get (by omega)] at hlr0
  obtain ⟨ra0, rcap0, rfl, _, _, hr30⟩ := hlr0.reads
  have hpl0 : (cntTo rows n).length = 15 := by rw [cntTo_len]; exact HRL.out
  obtain ⟨rb0, roff0, rfl, hrb0, hrc0⟩ := hr30.resolve_left (by intro e; rw [e] at hpl0; simp at hpl0)
  have q70 := cell_of hw75 (j := 0) rfl
  have q90 := cell_of hl5 (j := 0) rfl
  have qc0 := (hal.cell (p := ⟨lg0, n, none⟩) hlg0).trans hlc0
  have qe0 : (w4.alloc (.cells #[.slice (some ⟨lg0, 0, none⟩) (n + 1) lcap] 44)).cell? ⟨rb0, roff0, none⟩ = some (.int .i64 (gi (cntTo rows n) 0)) := (hal.cell (p := ⟨rb0, roff0 + 0, none⟩) hrb0).trans (hrc0 0 (by rw [hpl0]; omega))
  rw [hpl0] at qc0
  have n0 : (0 : Int) ≤ (n : Int) := by omega
  have n1 : (n : Int) < ((n + 1 : Nat) : Int) := by omega
  have hsm := HRS.out n (Nat.le_refl _)
  have hcb := cntTo_bound rows n 0
  have HWK : Hid (∀ W : World, Calls Try.prog 18 #[.int .i64 K, .int .i64 0, .int .i64 (gi (cntTo rows n) 0 - 1)] W fun e w' => e = .returned (.bool true) ∧ W = w') := Lib.hid (fun W => by
    have := withinT_any K 0 (gi (cntTo rows n) 0 - 1) W
    rwa [show withinB K 0 (gi (cntTo rows n) 0 - 1) = true by have := HK.out; simp [withinB]; omega] at this)
  clear hrows3 hlr0 hr30 hrc0 hlc0 hal hmrd4 hb4w hw74 hco hb4
  generalize gi (cntTo rows n) 0 = G at *
  have hwg := wrapZ (z := G - 1) (by omega) (by omega)
  have hwg2 := wrap64_small (k := G - 1) (by omega) (by omega)
  gi_wp2_with fail
  refine wpIn_wide.2 ?_
  refine wp_region_quiet_lit (by kernel_rfl) (by kernel_rfl) ?_
  repeat (go_big_quiet_step (fail))
  quiet_step ((go_at_call 18; exact (HWK.out _).mono (fun e w' h => ⟨h.1, _, h.2.symm⟩)))
  repeat (go_big_quiet_step (fail))
  refine wpQuiet_nil ?_
  intro _ hw'
  obtain ⟨nq, hw''⟩ := hw'
  subst hw''
  have hdr := below_drewN (w4.alloc (.cells #[.slice (some ⟨lg0, 0, none⟩) (n + 1) lcap] 44)) nq
  have hmrd6 := hmrd5.below hdr
  have hb6w := hb5w.trans (hdr.mono hb5w.size)
  have hw76 := (hdr.block _ (heap_lt hw75)).trans hw75
  have hl6 := (hdr.block _ (heap_lt hl5)).trans hl5
  have hco6 := hco5.step hdr
  clear hmrd5 hb5w hw75 hl5 hco5 q70 q90 qc0 qe0 hdr
  generalize hWW : World.drewN _ nq = WW at *
  clear hWW
  have hal := (((Below.refl WW.heap.size WW).alloc (Nat.le_refl _) (.cells #[sv []] 9)).alloc (by simp) (.cells #[.int .i64 0] 3)).alloc (by simp <;> omega) (.cells #[.int .i64 ((n : Int) - 1)] 3)
  have h13 : (((WW.alloc (.cells #[sv []] 9)).alloc (.cells #[.int .i64 0] 3)).alloc (.cells #[.int .i64 ((n : Int) - 1)] 3)).heap[WW.heap.size]? = some (.cells #[sv []] 9 (0, 0)) := alloc_old (alloc_old (heap_alloc_new _ _))
  have h14 : (((WW.alloc (.cells #[sv []] 9)).alloc (.cells #[.int .i64 0] 3)).alloc (.cells #[.int .i64 ((n : Int) - 1)] 3)).heap[WW.heap.size + 1]? = some (.cells #[.int .i64 0] 3 (0, 0)) := alloc_old (heap_alloc_at _ _ _ (by simp))
  have h15 : (((WW.alloc (.cells #[sv []] 9)).alloc (.cells #[.int .i64 0] 3)).alloc (.cells #[.int .i64 ((n : Int) - 1)] 3)).heap[WW.heap.size + 1 + 1]? = some (.cells #[.int .i64 ((n : Int) - 1)] 3 (0, 0)) := heap_alloc_at _ _ _ (by simp)
  gi_wp2_with fail
  change Code.wpIn Fence.wide 20 Try.prog _ _ _ (((WW.alloc (.cells #[sv []] 9)).alloc (.cells #[.int .i64 0] 3)).alloc (.cells #[.int .i64 ((n : Int) - 1)] 3))
  generalize hW6 : World.alloc (World.alloc (World.alloc WW _) _) _ = W6 at *
  have H7 := Lib.hid ((hal.block _ (heap_lt hw76)).trans hw76)
  have H13 := Lib.hid h13
  have H14 := Lib.hid h14
  have H15 := Lib.hid h15
  have HBW := Lib.hid (hb6w.trans (hal.mono hb6w.size))
  have HKX := Lib.hid (KeepX.of_below (X := fun b => b = w.heap.size) hal)
  have HL := Lib.hid hl6
  have HCO := Lib.hid hco6
  have HMR := Lib.hid hmrd6
  have hww7 : w.heap.size < WW.heap.size := heap_lt hw76
  clear hW6 hal hw76 h13 h14 h15 hb6w hl6 hco6 hmrd6
  obtain ⟨BS, hBS⟩ : ∃ b, WW.heap.size = b := ⟨_, rfl⟩
  obtain ⟨B7, hB7⟩ : ∃ b, w.heap.size = b := ⟨_, rfl⟩
  obtain ⟨B9, hB9⟩ : ∃ b, w4.heap.size = b := ⟨_, rfl⟩
  obtain ⟨L, hLL⟩ : ∃ b, w1.heap.size = b := ⟨_, rfl⟩
  rw [hBS, hB7, hB9]
  rw [hB7] at H7
  rw [hBS] at H13 H14 H15
  rw [hB7] at HKX
  rw [hB9] at HL
  rw [hLL] at HMR
  have hBSa : WW.heap.size ≤ BS := by omega
  have hBSb : BS ≤ WW.heap.size := by omega
  have hB7a : w.heap.size ≤ B7 := by omega
  have hB7b : B7 ≤ w.heap.size := by omega
  have hB79 : B7 < B9 := by omega
  have hB7L : B7 < L := by omega
  have hB73 : B7 < w3.heap.size := by omega
  clear hBS hB7 hB9 hLL
  refine wpIn_loop (fun a' w' => ∃ (t BL : Nat) (u0 u1 u2 u3 u4 u5 u6 u8 u9 u12 u16 u17 u18 u19 u20 u21 u22 u23 u24 u25 u26 u27 u28 u29 u30 u31 u32 u33 u34 u35 u36 u37 u38 u39 u40 u41 u42 u43 u44 u45 u46 u47 u48 u49 u50 u51 u52 u53 u54 u55 u56 u57 u58 u59 u60 u61 u62 u63 u64 u65 u66 u67 u68 u69 u70 u71 u72 u73 u74 u75 u76 u77 u78 u79 u80 u81 u82 u83 : Value) (ds : List Deferred), (t ≤ n ∧ BS + 2 ≤ BL) ∧ (w'.heap[B7]? = some (.cells #[.int .i64 (itmRun rows n K t).1] 3 (0, 0)) ∧ w'.heap[BS]? = some (.cells #[sv (itmRun rows n K t).2.1] 9 (0, 0)) ∧ w'.heap[BS + 1]? = some (.cells #[.int .i64 ((itmRun rows n K t).2.2 : Nat)] 3 (0, 0)) ∧ w'.heap[BL]? = some (.cells #[.int .i64 ((n : Int) - 1 - t)] 3 (0, 0)) ∧ Below w.heap.size w w' ∧ KeepX (fun b => b = B7) WW w' ∧ Marks w.heap.size w'.heap.size ds w') ∧ a' = { tmps := List.toArray (u0 :: u1 :: u2 :: u3 :: u4 :: u5 :: u6 :: (.pointer (some ⟨B7, 0, none⟩)) :: u8 :: u9 :: (.pointer (some ⟨P, 0, none⟩)) :: (.pointer (some ⟨B9, 0, none⟩)) :: u12 :: (.pointer (some ⟨BS, 0, none⟩)) :: (.pointer (some ⟨BS + 1, 0, none⟩)) :: (.pointer (some ⟨BL, 0, none⟩)) :: u16 :: u17 :: u18 :: u19 :: u20 :: u21 :: u22 :: u23 :: u24 :: u25 :: u26 :: u27 :: u28 :: u29 :: u30 :: u31 :: u32 :: u33 :: u34 :: u35 :: u36 :: u37 :: u38 :: u39 :: u40 :: u41 :: u42 :: u43 :: u44 :: u45 :: u46 :: u47 :: u48 :: u49 :: u50 :: u51 :: u52 :: u53 :: u54 :: u55 :: u56 :: u57 :: u58 :: u59 :: u60 :: u61 :: u62 :: u63 :: u64 :: u65 :: u66 :: u67 :: u68 :: u69 :: u70 :: u71 :: u72 :: u73 :: u74 :: u75 :: u76 :: u77 :: u78 :: u79 :: u80 :: u81 :: u82 :: u83 :: []), defers := ds }) (fun (a' : Act) (w' : World) => leftOf a' w') ⟨0, BS + 1 + 1, _, _, _, _, _, _, _, _, _, _, _, _, _, _, _, _, _, _, _, _, _, _, _, _, _, _, _, _, _, _, _, _, _, _, _, _, _, _, _, _, _, _, _, _, _, _, _, _, _, _, _, _, _, _, _, _, _, _, _, _, _, _, _, _, _, _, _, _, _, _, _, _, _, _, _, _, _, _, [], ⟨by omega, by omega⟩, ⟨H7.out, H13.out, H14.out, by simpa using H15.out, HBW.out, HKX.out, trivial⟩, rfl⟩ ?_
  clear H7 H13 H14 H15 HBW HKX
  rintro a' W ⟨t, BL, u0, u1, u2, u3, u4, u5, u6, u8, u9, u12, u16, u17, u18, u19, u20, u21, u22, u23, u24, u25, u26, u27, u28, u29, u30, u31, u32, u33, u34, u35, u36, u37, u38, u39, u40, u41, u42, u43, u44, u45, u46, u47, u48, u49, u50, u51, u52, u53, u54, u55, u56, u57, u58, u59, u60, u61, u62, u63, u64, u65, u66, u67, u68, u69, u70, u71, u72, u73, u74, u75, u76, u77, u78, u79, u80, u81, u82, u83, ds, ⟨ht, hBL⟩, ⟨h7, h13, h14, h15, hbw, hkx, hmk⟩, rfl⟩
  by_cases htn : t < n
  · obtain ⟨st, hstd⟩ : ∃ s0 : Int × List UInt8 × Nat, itmRun rows n K t = s0 := ⟨_, rfl⟩
    obtain ⟨k0, o, i⟩ := st
    have hi15 := HST.out t (by omega)
    have hol := itmRun_len rows n K t
    rw [hstd] at h7 h13 h14 hi15 hol
    simp only at h7 h13 h14 hi15 hol
    obtain ⟨m, hmm⟩ : ∃ m : Nat, n - 1 - t = m := ⟨_, rfl⟩
    have hm2 : (n : Int) - 1 - (t : Int) = (m : Int) := by omega
    rw [hm2] at h15
    have hm1 : m < n + 1 := by omega
    obtain ⟨prev, hprev⟩ : ∃ p, cntTo rows m = p := ⟨_, rfl⟩
    obtain ⟨row, hrow⟩ : ∃ r, rows.getD i [] = r := ⟨_, rfl⟩
    have hri : rows[i]? = some row := by rw [← hrow]; simp [HRL.out, hi15]
    have hfr := row_fine HRF.out hri
    have HRUN : Hid (itmRun rows n K (t + 1) = itmStep prev (stepsL row) (k0, o, i)) := Lib.hid (by
      show itmStep (cntTo rows (n - 1 - t)) (stepsL (rows.getD (itmRun rows n K t).2.2 [])) (itmRun rows n K t) = _
      rw [hmm, hprev, hstd]; simp only; rw [hrow])
    obtain ⟨ng, ncap, hgL, hn1', hn2⟩ := HMR.out.nxt
    have hPL := HMR.out.pl
    obtain ⟨rowv, hrowc', hrowR⟩ := hn2 i hi15
    rw [hrow] at hrowR
    have hn1 := (hkx.cell (p := ⟨P, 2, none⟩) (World.block_lt_of_cell? _ _ hn1') (by show ¬ P = B7; omega)).trans hn1'
    have hrowc := (hkx.cell (p := ⟨ng, i, none⟩) (World.block_lt_of_cell? _ _ hrowc') (by show ¬ ng = B7; omega)).trans hrowc'
    have hrow1 := ReadsS.same hrowR (fun b hb => hkx.2 b hb.2 (by omega))
    have q15 := cell_of h15 (j := 0) rfl
    have q14 := cell_of h14 (j := 0) rfl
    have m0 : (0 : Int) ≤ (m : Int) := by omega
    have hblw := heap_lt h15
    clear hn2 hn1' hrowc' hri hrowR
    gi_wp2_with fail
    have HQ15 : Hid (W.cell? ⟨BL, 0, none⟩ = some (.int .i64 m)) := Lib.hid q15
    clear q15 q14
    refine ⟨trivial, (callsIn_wide.2 (steps_any P i _)).mono ?_⟩
    rintro e w1 ⟨rfl, rfl⟩
    have hal : Below W.heap.size W ((W.alloc (.cells #[.pointer (some ⟨P, 0, none⟩)] 42)).alloc (.cells #[.int .i64 i] 3)) := ((Below.refl _ _).alloc (Nat.le_refl _) _).alloc (by simp) _
    have hb1 : ((W.alloc (.cells #[.pointer (some ⟨P, 0, none⟩)] 42)).alloc (.cells #[.int .i64 i] 3)).heap[W.heap.size]? = some (.cells #[.pointer (some ⟨P, 0, none⟩)] 42) := alloc_old (heap_alloc_new _ _)
    have hb2 : ((W.alloc (.cells #[.pointer (some ⟨P, 0, none⟩)] 42)).alloc (.cells #[.int .i64 i] 3)).heap[W.heap.size + 1]? = some (.cells #[.int .i64 i] 3) := heap_alloc_at _ _ _ (by simp)
    have x7 := (hal.block _ (heap_lt h7)).trans h7
    have x13 := (hal.block _ (heap_lt h13)).trans h13
    have x14 := (hal.block _ (heap_lt h14)).trans h14
    have x15 := (hal.block _ (heap_lt h15)).trans h15
    have xbw := hbw.trans (hal.mono hbw.size)
    have xkx := hkx.trans (KeepX.of_below hal)
    have xmk := hmk.below hal
    have xrc := (hal.cell (p := ⟨ng, i, none⟩) (World.block_lt_of_cell? _ _ hrowc)).trans hrowc
    have xn1 := (hal.cell (p := ⟨P, 2, none⟩) (World.block_lt_of_cell? _ _ hn1)).trans hn1
    have hszB : ((W.alloc (.cells #[.pointer (some ⟨P, 0, none⟩)] 42)).alloc (.cells #[.int .i64 i] 3)).heap.size = W.heap.size + 2 := by simp
    have hwW : WW.heap.size ≤ W.heap.size := hkx.1
    have hrow2 := ReadsS.same hrow1 (fun b hb => hal.block b (Nat.lt_of_lt_of_le hb.2 hwW))
    clear h7 h13 h14 h15 hbw hkx hmk hrowc hn1 hrow1
    generalize hWB : World.alloc (World.alloc W _) _ = WB at *
    generalize hB : W.heap.size = B at *
    clear hWB hal hB
    gi_wp2_with fail
    have hrr : ReadsS (fun b => b < WB.heap.size ∧ ¬ (b = B7 ∨ b = BS ∨ b = BS + 1 ∨ b = WB.heap.size ∨ b = WB.heap.size + 1)) WB rowv row := hrow2.mono (fun b hb => by have := hb.1; have := hb.2; omega)
    obtain ⟨vs, hv1, hv2, hv3⟩ := HCO.out
    have hvl : vs.length = n + 1 := by rw [hv2.len, cntsTo_len]
    have hlgb : w3.heap.size ≤ lg0 := (World.ownsRow.lt hv1 lg0 rfl).1
    obtain ⟨lrv, hlv2, hlr⟩ := hv2.at m (by rw [cntsTo_len]; exact hm1)
    rw [cntsTo_get (by omega), hprev] at hlr
    have hlc : WW.cell? ⟨lg0, m, none⟩ = some lrv := by have h := hv1; rw [hvl] at h; rw [h.cellAt m (by omega)]; simpa using hlv2
    have hlgw : lg0 < WW.heap.size := World.block_lt_of_cell? _ _ hlc
    have hpl : prev.length = 15 := by rw [← hprev, cntTo_len]; exact HRL.out
    obtain ⟨ra, rcap, rfl, _, _, hr3⟩ := hlr.readsL
    obtain ⟨rb, roff, rfl, hrb, hrc⟩ := hr3.resolve_left (by intro e; rw [e] at hpl; simp at hpl)
    rw [hpl] at hrc hlc
    have HLC := Lib.hid hlc
    have HRC := Lib.hid hrc
    have HBD : Hid (∀ j, 0 ≤ gi prev j ∧ gi prev j ≤ 1152921504606846977) := Lib.hid (by rw [← hprev]; exact cntTo_bound rows m)
    clear hv1 hv2 hv3 hlv2 hlr hr3 hlc hrc
    refine range_imgs (gf := 30) (lb := #[.pointer (some ⟨B, 0, none⟩), .pointer (some ⟨B + 1, 0, none⟩)]) rfl (enters_of Try.func30 (by kernel_rfl) rfl)
      (given_B (steps1_given (fun b => (b = B7 ∨ b = BS ∨ b = BS + 1 ∨ b = WB.heap.size ∨ b = WB.heap.size + 1)) row P B (B + 1) ng 15 ncap i _ rowv WB (fun b hb => by omega) hb1 hb2 xn1 xrc hi15 hrr (by have := hfr.1; omega)))
      (fun A => KeepX.refl _ _) (fun h k => KeepX.trans h k) (fun W o' => KeepX.putObj (.inr (.inr (.inr (.inr rfl))))) (fun _ => rfl)
      (fun pre V => MissAt B7 prev k0 pre V ∧ V.heap[BS]? = some (.cells #[sv o] 9 (0, 0)) ∧ V.heap[BS + 1]? = some (.cells #[.int .i64 i] 3 (0, 0)) ∧ V.heap[BL]? = some (.cells #[.int .i64 m] 3 (0, 0)) ∧ Below w.heap.size w V ∧ KeepX (fun b => b = B7) WW V ∧ Marks w.heap.size B ds V ∧ B + 2 ≤ V.heap.size)
      (fun c pre V => c = .exit 2 ∧ HitI B7 BS prev k0 o pre V ∧ V.heap[BL]? = some (.cells #[.int .i64 m] 3 (0, 0)) ∧ Below w.heap.size w V ∧ KeepX (fun b => b = B7) WW V ∧ Marks w.heap.size B ds V ∧ B + 2 ≤ V.heap.size)
      ?a1 ?hI ?hIx ?hIB ⟨⟨k0, rfl, x7⟩, x13, x14, x15, xbw, xkx, xmk, by omega⟩ ?assign ?body (fun pre x a' s W W' row h _ _ => h) ?done ?stop
    case assign =>
      intro l x W K hK
      simp only [stepEnc]
      gi_wp2
      exact hK
    case hI =>
      rintro s' V V' row' ⟨⟨k1, g1, g2⟩, h1, h2, h4, h5, h5k, h6, h7⟩ hg hr
      exact ⟨⟨k1, g1, own_block hg hr (by omega) g2⟩, own_block hg hr (by omega) h1, own_block hg hr (by omega) h2, own_block hg hr (by omega) h4, h5.grown hg h5.size (fun q e => by have := (hr q e).1; omega), keepX_grown h5k hg (fun q e => by have := (hr q e).1; omega), h6.grown hg (fun q e => by have := (hr q e).1; omega), Nat.le_trans h7 hg.size⟩
    case hIx =>
      rintro c s' V V' row' ⟨h0, ⟨pre', x, k1, g1, g2, g3, g4, g5, g6⟩, h4, h5, h5k, h6, h7⟩ hg hr
      exact ⟨h0, ⟨pre', x, k1, g1, g2, g3, own_block hg hr (by omega) g4, own_block hg hr (by omega) g5, own_block hg hr (by omega) g6⟩, own_block hg hr (by omega) h4, h5.grown hg h5.size (fun q e => by have := (hr q e).1; omega), keepX_grown h5k hg (fun q e => by have := (hr q e).1; omega), h6.grown hg (fun q e => by have := (hr q e).1; omega), Nat.le_trans h7 hg.size⟩
    case hIB =>
      rintro s' V b j v hb ⟨⟨k1, g1, g2⟩, h1, h2, h4, h5, h5k, h6, h7⟩
      exact ⟨⟨k1, g1, (heap_setCell_other _ _ _ _ (by show B7 ≠ b; omega)).trans g2⟩, (heap_setCell_other _ _ _ _ (by show BS ≠ b; omega)).trans h1, (heap_setCell_other _ _ _ _ (by show BS + 1 ≠ b; omega)).trans h2, (heap_setCell_other _ _ _ _ (by show BL ≠ b; omega)).trans h4, h5.setCell (p := ⟨b, j, none⟩) (by show w.heap.size ≤ b; omega) _, keepX_set h5k (by omega) _, h6.setCell _ _ _, by simpa using h7⟩
    case body =>
      rintro l pre ⟨c, jj⟩ V hl' ⟨⟨k1, hk1, h7⟩, h13, h14, h15, hbw, hkx, hmk, hsz⟩ hpx
      have hmem : (c, jj) ∈ stepsL row := hpx.subset (by simp)
      obtain ⟨hc2, hj0, hj15⟩ := hfr.2 _ hmem
      obtain ⟨j, rfl⟩ : ∃ j : Nat, jj = (j : Int) := ⟨jj.toNat, by simp only at hj0; omega⟩
      have hj15' : j < 15 := by rw [HRL.out] at hj15; simpa using hj15
      have he1 := bytes_abc hc2
      have q7 := cell_of h7 (j := 0) rfl
      have q9 := cell_of (hkx.block HL.out (by show ¬ B9 = B7; omega)) (j := 0) rfl
      have q15 := cell_of h15 (j := 0) rfl
      have qr := (hkx.cell (p := ⟨lg0, m, none⟩) hlgw (by show ¬ lg0 = B7; omega)).trans HLC.out
      have qe := (hkx.cell (p := ⟨rb, roff + j, none⟩) hrb.2 (by show ¬ rb = B7; have := hrb.1; omega)).trans (HRC.out j hj15')
      have m1 : (m : Int) < ((n + 1 : Nat) : Int) := by omega
      have j0 : (0 : Int) ≤ (j : Int) := by omega
      have j1 : (j : Int) < 15 := by omega
      have hBd := HBD.out j
      have HK1 := Lib.hid hk1
      have H7 := Lib.hid h7
      have H13 := Lib.hid h13
      have H14 := Lib.hid h14
      have H15 := Lib.hid h15
      have HBW := Lib.hid hbw
      have HKX := Lib.hid hkx
      have HMK := Lib.hid hmk
      have HSZ : Hid (B + 2 ≤ V.heap.size) := Lib.hid hsz
      have hb13 : BS < V.heap.size := heap_lt h13
      have hb14 : BS + 1 < V.heap.size := heap_lt h14
      have hb7 : B7 < V.heap.size := heap_lt h7
      clear hmem hj0 hj15 hpx hk1 h7 h13 h14 h15 hbw hkx hmk hsz
      by_cases hhit : k1 < gi prev j
      · have HHIT : Hid (k1 < gi prev ((j : Int)).toNat) := Lib.hid (by simpa using hhit)
        generalize gi prev j = Bv at *
        gi_wp2_with fail
        refine region_quiet_round (by kernel_rfl) (by kernel_rfl) (by kernel_rfl) ?_
        repeat (gi_big_quiet_step (fail))
        refine wpQuietIn_nil ?_
        intro _ hw'
        obtain ⟨nq, hw''⟩ := hw'
        subst hw''
        have d13 := (heap_drewN V nq BS).trans H13.out
        have d14 := (heap_drewN V nq (BS + 1)).trans H14.out
        have q13 := cell_of d13 (j := 0) rfl
        have q14 := cell_of d14 (j := 0) rfl
        have f13 := free_of d13 0
        have f14 := free_of d14 0
        have D13 := Lib.hid d13
        have D14 := Lib.hid d14
        obtain ⟨o2, ho2⟩ : ∃ y, o ++ [letterOf c] = y := ⟨_, rfl⟩
        have hcat : (⟨o.toArray⟩ : ByteArray) ++ ⟨#[letterOf c]⟩ = ⟨o2.toArray⟩ := by rw [← ho2]; exact bytes_add o [letterOf c]
        have ho2l : o2.length = o.length + 1 := by rw [← ho2]; simp
        have HO2 := Lib.hid ho2
        clear d13 d14 q7 q9 q15 qr qe ho2
        gi_wp2_with fail
        refine ⟨((keeps_drewN _ V _).trans (keeps_set _ _ _ _ _)).trans (keeps_set _ _ _ _ _), ⟨by simp [size_drewN], fun b hb hx => (heap_setCell_other _ _ _ _ (fun e => hx (.inr (.inr (.inl e))))).trans ((heap_setCell_other _ _ _ _ (fun e => hx (.inr (.inl e)))).trans (heap_drewN _ _ _))⟩, rfl, ⟨pre, (c, (j : Int)), k1, rfl, HK1.out, HHIT.out, ?_, ?_, ?_⟩, ?_, ?_, ?_, ?_, ?_⟩
        · exact (heap_setCell_other _ _ _ _ (by show B7 ≠ BS + 1; omega)).trans ((heap_setCell_other _ _ _ _ (by show B7 ≠ BS; omega)).trans ((heap_drewN _ _ _).trans H7.out))
        · rw [HO2.out]; exact (heap_setCell_other _ _ _ _ (by show BS ≠ BS + 1; omega)).trans (set_heap_same D13.out)
        · exact set_heap_same ((heap_setCell_other _ _ _ _ (by show BS + 1 ≠ BS; omega)).trans D14.out)
        · exact (heap_setCell_other _ _ _ _ (by show BL ≠ BS + 1; omega)).trans ((heap_setCell_other _ _ _ _ (by show BL ≠ BS; omega)).trans ((heap_drewN _ _ _).trans H15.out))
        · exact ((HBW.out.trans ((below_drewN V nq).mono HBW.out.size)).setCell (p := ⟨BS, 0, none⟩) (by show w.heap.size ≤ BS; omega) _).setCell (p := ⟨BS + 1, 0, none⟩) (by show w.heap.size ≤ BS + 1; omega) _
        · exact keepX_set (keepX_set (HKX.out.trans (KeepX.of_below (below_drewN V nq))) (by omega) _) (by omega) _
        · exact ((HMK.out.below (below_drewN _ _)).setCell _ _ _).setCell _ _ _
        · have := HSZ.out; simpa [size_drewN] using this
      · have HMS := Lib.hid (itmMiss_snoc (n := c) HK1.out hhit)
        have f7 := free_of H7.out 0
        generalize gi prev j = Bv at *
        have hws2 : IntKind.i64.wrap (k1 - Bv) = wrap64 (k1 - Bv) := wrap64_eq _
        obtain ⟨S, hS⟩ : ∃ S, wrap64 (k1 - Bv) = S := ⟨_, rfl⟩
        rw [hS] at HMS hws2
        have hle : Bv ≤ k1 := by omega
        gi_wp2_with fail
        refine region_quiet_round (by kernel_rfl) (by kernel_rfl) (by kernel_rfl) ?_
        repeat (gi_big_quiet_step (fail))
        refine wpQuietIn_nil ?_
        intro _ hw'
        obtain ⟨nq, hw''⟩ := hw'
        subst hw''
        gi_wp2_with fail
        refine region_then 9 rfl rfl rfl (by kernel_rfl) (by kernel_rfl) (by kernel_rfl) (by kernel_rfl) (by kernel_rfl) (by kernel_rfl) ?_
        dsimp only [List.dropLast]
        repeat (gi_big_quiet_step (fail))
        refine wpQuietIn_nil ?_
        intro _ hw'
        obtain ⟨nq2, hw''⟩ := hw'
        subst hw''
        go_simp
        refine ⟨(keeps_drewN _ V _).trans (keeps_set _ _ _ _ _), ⟨by simp [size_drewN], fun b hb hx => (heap_setCell_other _ _ _ _ (fun e => hx (.inl e))).trans (heap_drewN _ _ _)⟩, ⟨S, HMS.out, set_heap_same ((heap_drewN _ _ _).trans H7.out)⟩, ?_, ?_, ?_, ?_, ?_, ?_, ?_⟩
        · exact (heap_setCell_other _ _ _ _ (by show BS ≠ B7; omega)).trans ((heap_drewN _ _ _).trans H13.out)
        · exact (heap_setCell_other _ _ _ _ (by show BS + 1 ≠ B7; omega)).trans ((heap_drewN _ _ _).trans H14.out)
        · exact (heap_setCell_other _ _ _ _ (by show BL ≠ B7; omega)).trans ((heap_drewN _ _ _).trans H15.out)
        · exact (HBW.out.trans ((below_drewN V _).mono HBW.out.size)).setCell (p := ⟨B7, 0, none⟩) (by show w.heap.size ≤ B7; omega) _
        · exact ⟨by have := HKX.out.1; simpa [size_drewN] using this, fun b hb hx => (heap_setCell_other _ _ _ _ (fun e => hx e)).trans ((heap_drewN _ _ _).trans (HKX.out.2 b hb hx))⟩
        · exact (HMK.out.below (below_drewN _ _)).setCell _ _ _
        · have := HSZ.out; simpa [size_drewN] using this
    case done =>
      rintro D zs V hD rfl ⟨⟨k1, hk1, h7⟩, h13, h14, h15, hbw, hkx, hmk, hsz⟩ hK
      have hm2 := hmk.add (D := D) (by omega) (by omega) hK
      have HM3 : Hid (Marks w.heap.size V.heap.size ({ target := .collected D, args := #[] } :: ds) V) := Lib.hid (hm2.mono (by have := heap_lt hK; omega))
      have hr1 := HRUN.out
      rw [itmStep_miss hk1] at hr1
      have H7 : Hid (V.heap[B7]? = some (.cells #[.int .i64 (itmRun rows n K (t + 1)).1] 3 (0, 0))) := Lib.hid (by rw [hr1]; exact h7)
      have H13 : Hid (V.heap[BS]? = some (.cells #[sv (itmRun rows n K (t + 1)).2.1] 9 (0, 0))) := Lib.hid (by rw [hr1]; exact h13)
      have H14 : Hid (V.heap[BS + 1]? = some (.cells #[.int .i64 ((itmRun rows n K (t + 1)).2.2 : Nat)] 3 (0, 0))) := Lib.hid (by rw [hr1]; exact h14)
      have HBW := Lib.hid hbw
      have HKX := Lib.hid hkx
      have q15 := cell_of h15 (j := 0) rfl
      have hm3 : (n : Int) - 1 - ((t + 1 : Nat) : Int) = (m : Int) - 1 := by omega
      clear hk1 h7 h13 h14 h15 hbw hkx hmk hm2 hK hr1
      gi_wp2_with fail
      refine ⟨⟨t + 1, V.heap.size, _, _, _, _, _, _, _, _, _, _, _, _, _, _, _, _, _, _, _, _, _, _, _, _, _, _, _, _, _, _, _, _, _, _, _, _, _, _, _, _, _, _, _, _, _, _, _, _, _, _, _, _, _, _, _, _, _, _, _, _, _, _, _, _, _, _, _, _, _, _, _, _, _, _, _, _, _, _, _, ⟨by omega, by have := heap_lt H14.out; omega⟩, ⟨rec_old H7.out, rec_old H13.out, rec_old H14.out, by rw [hm3]; exact rec_new, rec_below HBW.out, rec_keep HKX.out, rec_marks HM3.out⟩, by rfl⟩, ?_⟩
      rw [leftOf_eq (p := ⟨V.heap.size, 0, none⟩) rfl (cell_of rec_new (j := 0) rfl), leftOf_eq (p := ⟨BL, 0, none⟩) rfl HQ15.out]
      omega
    case stop =>
      rintro D c pre V hD hpre ⟨rfl, ⟨pre', x, k1, g1, hk1, hx, h7, h13, h14⟩, h15, hbw, hkx, hmk, hsz⟩ hK
      have hm2 := hmk.add (D := D) (by omega) (by omega) hK
      have HM3 : Hid (Marks w.heap.size V.heap.size ({ target := .collected D, args := #[] } :: ds) V) := Lib.hid (hm2.mono (by have := heap_lt hK; omega))
      obtain ⟨rest, hrest⟩ := hpre
      have hst2 : itmStep prev (stepsL row) (k0, o, i) = (k1, o ++ [letterOf x.1], x.2.toNat) := by
        rw [← hrest, g1, List.append_assoc]; exact itmStep_hit hk1 hx
      have hr1 := HRUN.out
      rw [hst2] at hr1
      have hx0 : 0 ≤ x.2 := (hfr.2 x (by rw [← hrest, g1]; simp)).2.1
      have H7 : Hid (V.heap[B7]? = some (.cells #[.int .i64 (itmRun rows n K (t + 1)).1] 3 (0, 0))) := Lib.hid (by rw [hr1]; exact h7)
      have H13 : Hid (V.heap[BS]? = some (.cells #[sv (itmRun rows n K (t + 1)).2.1] 9 (0, 0))) := Lib.hid (by rw [hr1]; exact h13)
      have H14 : Hid (V.heap[BS + 1]? = some (.cells #[.int .i64 ((itmRun rows n K (t + 1)).2.2 : Nat)] 3 (0, 0))) := Lib.hid (by rw [hr1]; simp only; rw [show ((x.2.toNat : Nat) : Int) = x.2 by omega]; exact h14)
      have HBW := Lib.hid hbw
      have HKX := Lib.hid hkx
      have q15 := cell_of h15 (j := 0) rfl
      have hm3 : (n : Int) - 1 - ((t + 1 : Nat) : Int) = (m : Int) - 1 := by omega
      clear g1 hk1 hx h7 h13 h14 h15 hbw hkx hmk hm2 hK hr1 hst2 hrest
      gi_wp2_with fail
      refine ⟨⟨t + 1, V.heap.size, _, _, _, _, _, _, _, _, _, _, _, _, _, _, _, _, _, _, _, _, _, _, _, _, _, _, _, _, _, _, _, _, _, _, _, _, _, _, _, _, _, _, _, _, _, _, _, _, _, _, _, _, _, _, _, _, _, _, _, _, _, _, _, _, _, _, _, _, _, _, _, _, _, _, _, _, _, _, _, ⟨by omega, by have := heap_lt H14.out; omega⟩, ⟨rec_old H7.out, rec_old H13.out, rec_old H14.out, by rw [hm3]; exact rec_new, rec_below HBW.out, rec_keep HKX.out, rec_marks HM3.out⟩, by rfl⟩, ?_⟩
      rw [leftOf_eq (p := ⟨V.heap.size, 0, none⟩) rfl (cell_of rec_new (j := 0) rfl), leftOf_eq (p := ⟨BL, 0, none⟩) rfl HQ15.out]
      omega
  · have hte : t = n := by omega
    subst hte
    have HMK := Lib.hid hmk
    have HBW := Lib.hid hbw
    have q15 := cell_of h15 (j := 0) rfl
    have q13 := cell_of h13 (j := 0) rfl
    have hneg : ¬ (0 : Int) ≤ (t : Int) - 1 - (t : Int) := by omega
    clear h7 h13 h14 h15 hbw hkx hmk
    gi_wp2_with fail
    refine leave_marks _ _ _ HMK.out fun w' hsh => ?_
    exact ⟨_, results_tmp2 rfl _ _ _, rfl, HBW.out.trans hsh.below⟩
end Go.Proofs.Ytfjbggodniemeaa
