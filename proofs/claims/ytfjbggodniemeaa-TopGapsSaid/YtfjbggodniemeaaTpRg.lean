/- gauge: rung. -/
import Derived.Test.YtfjbggodniemeaaTpP
import Derived.Deep.AppendLies
set_option linter.unusedVariables false
set_option linter.unusedSimpArgs false
namespace Go.Proofs.Ytfjbggodniemeaa
open Go.RowKit

/-! ### what is computed -/
def fibL : Nat → List Int
  | 0 => [1, 2]
  | j + 1 => fibL j ++ [gi (fibL j) (j + 1) + gi (fibL j) j]
def nF (j : Nat) : Int := gi (fibL j) (j + 1) + gi (fibL j) j
theorem fibL_len : ∀ j, (fibL j).length = j + 2
  | 0 => rfl
  | j + 1 => by rw [fibL, List.length_append, fibL_len j]; rfl
theorem fib_facts : ∀ j, j < 8 → 3 ≤ nF j ∧ nF j ≤ 89 ∧ (j < 7 → nF j < nF (j + 1)) ∧ (j < 7 → nF j ≤ 60) ∧ (j = 7 → 60 < nF j) ∧ 0 ≤ gi (fibL j) j ∧ gi (fibL j) j ≤ 100 ∧ 0 ≤ gi (fibL j) (j + 1) ∧ gi (fibL j) (j + 1) ≤ 100 := by decide +kernel
theorem fib_all : ∀ j, j < 8 → ∀ m, m < j + 2 → 1 ≤ gi (fibL j) m ∧ gi (fibL j) m ≤ 100 := by decide +kernel
def fibJ (k : Nat) : Nat := if k < 3 then 0 else if k < 5 then 1 else if k < 8 then 2 else if k < 13 then 3 else if k < 21 then 4 else if k < 34 then 5 else if k < 55 then 6 else 7
theorem nF_vals : nF 0 = 3 ∧ nF 1 = 5 ∧ nF 2 = 8 ∧ nF 3 = 13 ∧ nF 4 = 21 ∧ nF 5 = 34 ∧ nF 6 = 55 ∧ nF 7 = 89 := by decide +kernel
theorem fibJ_eq {k j : Nat} (hj : j < 8) (h1 : (k : Int) < nF j) (h2 : ∀ i, i < j → nF i ≤ (k : Int)) : fibJ k = j := by
  obtain ⟨e0, e1, e2, e3, e4, e5, e6, e7⟩ := nF_vals
  have g : ∀ i, i < j → nF i ≤ (k : Int) := h2
  have hc : j = 0 ∨ j = 1 ∨ j = 2 ∨ j = 3 ∨ j = 4 ∨ j = 5 ∨ j = 6 ∨ j = 7 := by omega
  unfold fibJ
  rcases hc with rfl | rfl | rfl | rfl | rfl | rfl | rfl | rfl
  · rw [e0] at h1; (repeat' split) <;> omega
  · have := g 0 (by omega); rw [e1] at h1; (repeat' split) <;> omega
  · have := g 1 (by omega); rw [e2] at h1; (repeat' split) <;> omega
  · have := g 2 (by omega); rw [e3] at h1; (repeat' split) <;> omega
  · have := g 3 (by omega); rw [e4] at h1; (repeat' split) <;> omega
  · have := g 4 (by omega); rw [e5] at h1; (repeat' split) <;> omega
  · have := g 5 (by omega); rw [e6] at h1; (repeat' split) <;> omega
  · have := g 6 (by omega); rw [e7] at h1; (repeat' split) <;> omega
def powG (m : Nat) : Int × Int := (upTo 40).getD m (0, 0)
def rungDn (fs : List Int) : Nat → Int × (Int × Int) → Int × (Int × Int)
  | 0, s => s
  | m + 1, s => rungDn fs m (if gi fs m ≤ s.1 then (s.1 - gi fs m, gplus s.2 (powG m)) else s)
def rungV (k : Nat) : Int × Int := (rungDn (fibL (fibJ k)) (fibJ k + 2) ((k : Int), (0, 0))).2
theorem powG_at : ∀ m, m ≤ 9 → powL[(40 + m) * 2]? = some (.int .i64 (powG m).1) ∧ powL[(40 + m) * 2 + 1]? = some (.int .i64 (powG m).2)
  | 0, _ => ⟨by kernel_rfl, by kernel_rfl⟩
  | 1, _ => ⟨by kernel_rfl, by kernel_rfl⟩
  | 2, _ => ⟨by kernel_rfl, by kernel_rfl⟩
  | 3, _ => ⟨by kernel_rfl, by kernel_rfl⟩
  | 4, _ => ⟨by kernel_rfl, by kernel_rfl⟩
  | 5, _ => ⟨by kernel_rfl, by kernel_rfl⟩
  | 6, _ => ⟨by kernel_rfl, by kernel_rfl⟩
  | 7, _ => ⟨by kernel_rfl, by kernel_rfl⟩
  | 8, _ => ⟨by kernel_rfl, by kernel_rfl⟩
  | 9, _ => ⟨by kernel_rfl, by kernel_rfl⟩
  | n + 10, h => absurd h (by omega)

set_option maxRecDepth 100000 in
set_option maxHeartbeats 3200000 in
theorem rung_any (k : Nat) (hk : k ≤ 60) (w : World) :
    Calls Try.prog 21 #[.int .i64 k] w fun e w' => e = .returned (gv (rungV k)) ∧ Below w.heap.size w w' := by
  have hz := zero_powers
  generalize hZ : (List.replicate 162 (Value.int .i64 0)).toArray = Z at hz
  obtain ⟨AR, hARe⟩ : ∃ A, powL.toArray = A := ⟨_, rfl⟩
  have hARs : AR.size = 162 := by rw [← hARe, List.size_toArray, powL_len]
  have hARo : AR.all (·.oneCell') = true := by rw [← hARe, Array.all_eq_true_iff_forall_mem]; exact fun v hv => powL_one v (by simpa using hv)
  have HNP : Hid (∀ w, Calls Try.prog 32 #[] w fun e w' => e = .returned (.agg AR) ∧ Below w.heap.size w w') := Lib.hid (fun w => by rw [← hARe]; exact newPowers_any w)
  have HAR : Hid (∀ m, m ≤ 9 → AR[(40 + m) * 2]? = some (.int .i64 (powG m).1) ∧ AR[(40 + m) * 2 + 1]? = some (.int .i64 (powG m).2)) := Lib.hid (fun m hm => by rw [← hARe]; simpa using powG_at m hm)
  have hsc : ∀ w2 : World, (storeCells ⟨w2.heap.size, 0, none⟩ AR.toList 0).run Try.prog (w2.alloc (.cells Z 70)) = .ok () (w2.alloc (.cells AR 70)) := fun w2 =>
    run_storeCells_new (P := Try.prog) w2 70 Z AR (by rw [hARs]; kernel_rfl) (by rw [hARs, ← hZ]; simp) hARo
  clear hARe hARo
  go_enter Try.func21, Try.ntmps21
  go_wp2_with fail
  refine (HNP.out _).mono ?_
  rintro e w2 ⟨rfl, hb2⟩
  have hsc2 := hsc w2
  have hz2 := hz w2
  clear hsc
  go_wp2_with fail
  have hB0 := heap_alloc_new w (.cells #[.int .i64 0, .int .i64 0] 35)
  have hb2w : Below w.heap.size w w2 := ((Below.refl _ w).alloc (Nat.le_refl _) _).trans (hb2.mono (by simp))
  have hB02 : w2.heap[w.heap.size]? = some (.cells #[.int .i64 0, .int .i64 0] 35 (0, 0)) := (hb2.block _ (by simp)).trans hB0
  have hal : Below w2.heap.size w2 (w2.alloc (.cells AR 70)) := (Below.refl _ _).alloc (Nat.le_refl _) _
  have hB3 : (w2.alloc (.cells AR 70)).heap[w2.heap.size]? = some (.cells AR 70 (0, 0)) := heap_alloc_new _ _
  have hB03 := (hal.block _ (heap_lt hB02)).trans hB02
  have hb3w := hb2w.trans (hal.mono hb2w.size)
  have hsz3 : (w2.alloc (.cells AR 70)).heap.size = w2.heap.size + 1 := by simp
  clear hsc2 hz2 hb2 hb2w hB0 hB02 hal hz
  generalize hw3 : w2.alloc (.cells AR 70) = w3 at *
  have hc0 : Col w3 (w3.alloc (.cells #[.int .i64 1, .int .i64 2] 3)) (.slice (some ⟨w2.heap.size + 1, 0, none⟩) 2 2) (fibL 0) :=
    ⟨⟨rfl, .inr ⟨w2.heap.size + 1, 2, _, rfl, by omega, heap_alloc_at _ _ _ (by omega), Nat.le_refl _, by simp [maxLen], rfl, rfl⟩⟩, (Below.refl _ _).alloc (Nat.le_refl _) _⟩
  have HC0 := Lib.hid hc0
  generalize hB3g : w2.heap.size = B3 at *
  generalize hB0g : w.heap.size = B0 at *
  have hB0a : w.heap.size ≤ B0 := by omega
  have HB3 := Lib.hid hB3
  have HB0 := Lib.hid hB03
  have HBW := Lib.hid hb3w
  have hB0l : B0 < w3.heap.size := heap_lt hB03
  have hB3l : B3 < w3.heap.size := heap_lt hB3
  clear hc0 hB3 hB03 hb3w hw3 hB3g hB0g
  go_loopw [4, 5] (fun v n W => ∃ j : Nat, j < 8 ∧ n = .int .i64 (nF j) ∧ (∀ i, i < j → nF i ≤ (k : Int)) ∧ Col w3 W v (fibL j)) (fun _ n _ => 100 - (intOf n).toNat)
  case atStart => exact ⟨0, by omega, rfl, fun i hi => absurd hi (by omega), HC0.out⟩
  case round =>
    obtain ⟨j, hj, rfl, hall, hcol⟩ := hrel
    obtain ⟨f1, f2, f3, f4, f5, f6, f7, f8, f9⟩ := fib_facts j hj
    by_cases hle : nF j ≤ (k : Int)
    · have hj7 : j < 7 := by
        rcases Nat.lt_or_ge j 7 with h | h
        · exact h
        · have := f5 (by omega); omega
      have hlt := f3 hj7
      obtain ⟨g1, g2, g3, g4, g5, g6, g7, g8, g9⟩ := fib_facts (j + 1) (by omega)
      have HC := Lib.hid hcol
      have HALL : Hid (∀ i, i < j + 1 → nF i ≤ (k : Int)) := Lib.hid (fun i hi => by
        by_cases e : i = j
        · rw [e]; exact hle
        · exact hall i (by omega))
      have HSN : Hid (fibL j ++ [nF j] = fibL (j + 1)) := Lib.hid rfl
      have HN : Hid (nF (j + 1) = gi (fibL (j + 1)) (j + 1 + 1) + gi (fibL (j + 1)) (j + 1)) := Lib.hid rfl
      have HLL : Hid ((fibL j).length ≤ 1000000000) := Lib.hid (by rw [fibL_len]; omega)
      have hnn := f4 hj7
      clear hall hcol f2 f3 f4 f5 f6 f7 f8 f9 g3 g4 g5
      go_wp2_with (at_builtin; refine append_int rfl _ _ rfl HC.out rfl _ rfl HLL.out ?_; intro v' w' hcol' hne; rw [HSN.out] at hcol')
      obtain ⟨a, cap, rfl, _, _, hr3⟩ := hcol'.reads
      have hfl := fibL_len (j + 1)
      obtain ⟨b, off, rfl, _, hcell⟩ := hr3.resolve_left (by intro e; rw [e] at hfl; simp at hfl)
      have c1 := hcell (j + 2) (by omega)
      have c2 := hcell (j + 1) (by omega)
      obtain ⟨x, hx⟩ : ∃ x, gi (fibL (j + 1)) (j + 1 + 1) = x := ⟨_, rfl⟩
      obtain ⟨y, hy⟩ : ∃ y, gi (fibL (j + 1)) (j + 1) = y := ⟨_, rfl⟩
      rw [show j + 2 = j + 1 + 1 by omega, hx] at c1
      rw [hy] at c2
      have HXY : Hid (nF (j + 1) = x + y) := Lib.hid (by rw [HN.out, hx, hy])
      rw [hx] at g8 g9
      rw [hy] at g6 g7
      have HC2 := Lib.hid hcol'
      rw [hfl] at HC2 ⊢
      clear hcell hr3 hx hy hne HN hcol' HC HLL HSN hfl
      obtain ⟨L, hL⟩ : ∃ L, j + 1 + 2 = L := ⟨_, rfl⟩
      obtain ⟨m1, hm1⟩ : ∃ m, j + 1 + 1 = m := ⟨_, rfl⟩
      obtain ⟨m2, hm2⟩ : ∃ m, j + 1 = m := ⟨_, rfl⟩
      rw [hL] at HC2 ⊢
      rw [hm1] at c1
      rw [hm2] at c2 HC2 g1 HALL
      have d1 : (L : Int) - 1 = (m1 : Int) := by omega
      have d2 : (L : Int) - 2 = (m2 : Int) := by omega
      have d3 : IntKind.i64.wrap (m1 : Int) = (m1 : Int) := IntWalk.i64_in _ (by omega)
      have d4 : IntKind.i64.wrap (m2 : Int) = (m2 : Int) := IntWalk.i64_in _ (by omega)
      have d5 : (0 : Int) ≤ (m1 : Int) := by omega
      have d6 : (m1 : Int) < (L : Int) := by omega
      have d7 : (0 : Int) ≤ (m2 : Int) := by omega
      have d8 : (m2 : Int) < (L : Int) := by omega
      have d9 : IntKind.i64.wrap (x + y) = x + y := IntWalk.i64_in _ (by omega)
      go_quiet (fail)
      go_wp2_with fail
      refine ⟨⟨m2, by omega, by rw [← hm2, HXY.out], HALL.out, HC2.out.step (below_drewN _ _)⟩, ?_⟩
      have h1 := HXY.out
      have h2 : x + y = nF m2 := by rw [← hm2]; exact h1.symm
      rw [← hm2] at h2
      show 100 - (x + y).toNat < 100 - (nF j).toNat
      omega
    · have hjk : fibJ k = j := fibJ_eq hj (by omega) hall
      obtain ⟨fs, hfs⟩ : ∃ fs, fibL j = fs := ⟨_, rfl⟩
      have hfl := fibL_len j
      have hall2 := fib_all j hj
      have HRV : Hid (rungV k = (rungDn fs (j + 2) ((k : Int), (0, 0))).2) := Lib.hid (by unfold rungV; rw [hjk, hfs])
      rw [hfs] at hcol hfl hall2
      obtain ⟨a, cap, rfl, _, _, hr3⟩ := hcol.reads
      obtain ⟨b, off, rfl, hbl, hcell⟩ := hr3.resolve_left (by intro e; rw [e] at hfl; simp at hfl)
      rw [hfl] at hcell
      have HCELL := Lib.hid hcell
      have hbw := hcol.below
      have HB3' := Lib.hid ((hbw.block _ hB3l).trans HB3.out)
      have HB0' := Lib.hid ((hbw.block _ hB0l).trans HB0.out)
      have HBW' := Lib.hid (HBW.out.trans (hbw.mono (by omega)))
      have HALL2 := Lib.hid hall2
      have hw3r := hbw.size
      obtain ⟨L, hL⟩ : ∃ L, j + 2 = L := ⟨_, rfl⟩
      obtain ⟨m1, hm1⟩ : ∃ m, j + 1 = m := ⟨_, rfl⟩
      rw [hfl]
      rw [hL] at HCELL HALL2 HRV ⊢
      have d1 : (L : Int) - 1 = (m1 : Int) := by omega
      have d3 : IntKind.i64.wrap (m1 : Int) = (m1 : Int) := IntWalk.i64_in _ (by omega)
      clear hall hcol f1 f2 f3 f4 f5 f6 f7 f8 f9 hr3 hcell hbw hfl hall2 HC0 HB3 HB0 HBW hjk hfs
      go_wp2_with fail
      have h6 := heap_alloc_new wr (.cells #[.int .i64 0, .int .i64 0] 35)
      have hal : Below wr.heap.size wr (wr.alloc (.cells #[.int .i64 0, .int .i64 0] 35)) := (Below.refl _ _).alloc (Nat.le_refl _) _
      have H6 := Lib.hid h6
      have hb0r : B0 < wr.heap.size := heap_lt HB0'.out
      have hb3r : B3 < wr.heap.size := heap_lt HB3'.out
      clear h6 d1 d3
      generalize hW4 : wr.alloc (.cells #[.int .i64 0, .int .i64 0] 35) = W4 at *
      generalize hB6 : wr.heap.size = B6 at *
      clear hW4
      go_loopw [0, 7] (fun kv iv W => ∃ (m : Nat) (kc z : Int) (out : Int × Int), m ≤ L ∧ kv = .int .i64 kc ∧ iv = .int .i64 z ∧ z = (m : Int) - 1 ∧ (0 ≤ kc ∧ kc ≤ 60) ∧ rungDn fs m (kc, out) = rungDn fs L ((k : Int), (0, 0)) ∧ W.heap[B6]? = some (.cells #[.int .i64 out.1, .int .i64 out.2] 35 (0, 0)) ∧ Below B6 wr W) (fun _ iv _ => (intOf iv + 1).toNat)
      case atStart => exact ⟨L, (k : Int), (m1 : Int), (0, 0), by omega, rfl, rfl, by omega, by omega, rfl, H6.out, hal⟩
      case round =>
        obtain ⟨m, kc, z, ⟨oa, ob⟩, hm, rfl, rfl, hz, hkc, hrun, h6, hbw⟩ := hrel
        by_cases hm0 : 0 < m
        · obtain ⟨q, rfl⟩ : ∃ q, m = q + 1 := ⟨m - 1, by omega⟩
          have hzq : z = (q : Int) := by omega
          subst hzq
          have cq := (hbw.cell (p := ⟨b, off + q, none⟩) (by show b < B6; omega)).trans (HCELL.out q (by omega))
          obtain ⟨hf1, hf2⟩ := HALL2.out q (by omega)
          have HRUN := Lib.hid hrun
          rw [rungDn] at HRUN
          have HBW2 := Lib.hid hbw
          have H6' := Lib.hid h6
          have c6a := cell_of h6 (j := 0) rfl
          have c6b := cell_of h6 (j := 1) rfl
          have q0 : (0 : Int) ≤ (q : Int) := by omega
          have q1 : (q : Int) < (L : Int) := by omega
          have d4 : IntKind.i64.wrap ((q : Int) - 1) = (q : Int) - 1 := IntWalk.i64_in _ (by omega)
          have hP := HAR.out q (by omega)
          have b3 := (hbw.block _ (by show B3 < B6; omega)).trans HB3'.out
          have p0 := cell_of b3 (j := (40 + q) * 2) hP.1
          have p1 := cell_of b3 (j := (40 + q) * 2 + 1) hP.2
          generalize gi fs q = F at *
          clear hrun hbw h6 hP b3 hz
          by_cases hle2 : F ≤ kc
          · have d5 : IntKind.i64.wrap (kc - F) = kc - F := IntWalk.i64_in _ (by omega)
            rw [if_pos hle2] at HRUN
            go_wp2_with fail
            obtain ⟨pa, pb, hpq⟩ : ∃ pa pb, powG q = (pa, pb) := ⟨_, _, rfl⟩
            obtain ⟨ra, rb, hrq⟩ : ∃ ra rb, gplus (oa, ob) (pa, pb) = (ra, rb) := ⟨_, _, rfl⟩
            rw [hpq] at p0 p1
            have hb6l : B6 < wr.heap.size := heap_lt H6'.out
            have hb3l : B3 < wr.heap.size := by omega
            have HOF : Hid (∀ W : World, Below wr.heap.size wr W → Calls Try.prog 33 #[.pointer (some ⟨B3, 0, none⟩), .int .i64 q] W fun e w' => e = .returned (.agg #[.int .i64 pa, .int .i64 pb]) ∧ Below W.heap.size W w') := Lib.hid (fun W hW => of_any B3 q (pa, pb) W (by omega) ((hW.cell (p := ⟨B3, (40 + q) * 2, none⟩) hb3l).trans p0) ((hW.cell (p := ⟨B3, (40 + q) * 2 + 1, none⟩) hb3l).trans p1))
            have HPL : Hid (∀ W : World, Calls Try.prog 11 #[.agg #[.int .i64 oa, .int .i64 ob], .agg #[.int .i64 pa, .int .i64 pb]] W fun e w' => e = .returned (.agg #[.int .i64 ra, .int .i64 rb]) ∧ Below W.heap.size W w') := Lib.hid (fun W => by
              have := plus_any (oa, ob) (pa, pb) W
              rw [hrq] at this; exact this)
            have HRUN2 : Hid (rungDn fs q (kc - F, (ra, rb)) = rungDn fs L ((k : Int), (0, 0))) := Lib.hid (by rw [← hrq, ← hpq]; exact HRUN)
            clear hpq hrq HRUN
            go_region_law (first
                | (go_simp; go_at_call 33; refine (HOF.out _ ((Below.refl _ _).drew)).mono ?_; rintro e w7 ⟨rfl, hb7⟩; have x7 := (hb7.block B6 hb6l).trans H6'.out; have v0 := cell_of x7 (j := 0) rfl; have v1 := cell_of x7 (j := 1) rfl)
                | (go_simp; go_at_call 11; refine (HPL.out _).mono ?_; rintro e w8 ⟨rfl, hb8⟩; have x6 := (hb8.block B6 (Nat.lt_of_lt_of_le hb6l hb7.size)).trans ((hb7.block B6 hb6l).trans H6'.out); have y0 := cell_of x6 (j := 0) rfl; have y1 := cell_of x6 (j := 1) rfl; have f0 := free_of x6 0; have f1 := free_of x6 1; have hl8 := heap_lt x6))
            all_goals
              have hb9 := ((((HBW2.out.drew).trans (hb7.mono (by show B6 ≤ wr.heap.size; omega))).trans (hb8.mono (by have := hb7.size; have h : wr.drew.heap.size = wr.heap.size := rfl; omega))).setCell (p := ⟨B6, 0, none⟩) (Nat.le_refl _) (.int .i64 ra)).setCell (p := ⟨B6, 1, none⟩) (Nat.le_refl _) (.int .i64 rb)
              have h69 := set_heap_same (j := 1) (v := .int .i64 rb) (set_heap_same (j := 0) (v := .int .i64 ra) x6)
              have HB9 := Lib.hid hb9
              have H69 := Lib.hid h69
              clear hb9 h69 x6 y0 y1 f0 f1 x7 v0 v1 hb8 hb7 c6a c6b p0 p1
              go_wp2_with fail
              go_roundw
              case rel => exact ⟨q, kc - F, _, (ra, rb), by omega, rfl, rfl, rfl, by omega, HRUN2.out, H69.out, HB9.out⟩
              case measure => simp [intOf]
          · rw [if_neg hle2] at HRUN
            clear c6a c6b p0 p1
            go_wp2_with fail
            go_roundw
            case rel => exact ⟨q, kc, _, (oa, ob), by omega, rfl, rfl, rfl, hkc, HRUN.out, H6'.out, HBW2.out⟩
            case measure => simp [intOf]
        · have hm00 : m = 0 := by omega
          subst hm00
          have hz1 : ¬ (0 : Int) ≤ z := by omega
          have hz2 : z < 0 := by omega
          have hb0 := (hbw.block B0 (by omega)).trans HB0'.out
          have s0 := cell_of hb0 (j := 0) rfl
          have s1 := cell_of hb0 (j := 1) rfl
          have f0 := free_of hb0 0
          have f1 := free_of hb0 1
          have c6a := cell_of h6 (j := 0) rfl
          have c6b := cell_of h6 (j := 1) rfl
          have hl0 := heap_lt hb0
          have HRE : Hid (rungV k = (oa, ob)) := Lib.hid (by rw [HRV.out, ← hrun]; rfl)
          have HBW2 : Hid (Below w.heap.size w wr) := Lib.hid ((HBW'.out.mono hB0a).trans (hbw.mono (by omega)))
          clear hrun hbw h6
          go_wp2_with fail
          have hg0 : GoldAt ((wr.setCell ⟨B0, 0, none⟩ (.int .i64 oa)).setCell ⟨B0, 1, none⟩ (.int .i64 ob)) B0 (oa, ob) := set_heap_same (j := 1) (v := .int .i64 ob) (set_heap_same (j := 0) (v := .int .i64 oa) hb0)
          refine bodyPost_ret (results_var1 rfl rfl hg0.load) rfl ⟨by rw [HRE.out], ?_⟩
          exact (HBW2.out.setCell (p := ⟨B0, 0, none⟩) (by show w.heap.size ≤ B0; exact hB0a) _).setCell (p := ⟨B0, 1, none⟩) (by show w.heap.size ≤ B0; exact hB0a) _
end Go.Proofs.Ytfjbggodniemeaa
