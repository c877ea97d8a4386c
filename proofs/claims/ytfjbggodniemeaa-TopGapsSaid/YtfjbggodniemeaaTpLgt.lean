/- tread: Longest. (printed by gen_tplgt.py) -/
import Derived.Test.YtfjbggodniemeaaTpLg
import Derived.Test.YtfjbggodniemeaaTpItm
set_option linter.unusedVariables false
set_option linter.unusedSimpArgs false
namespace Go.Proofs.Ytfjbggodniemeaa
open Go.RowKit
attribute [local go_sem] Oper.semAt_some

def iT (t : Nat) : Nat := [0, 2, 3].getD t 0
def cT (t : Nat) : Nat := [1, 0].getD t 0
def outT (t : Nat) : List UInt8 := [[], [98], [98, 97]].getD t []
theorem lgt_facts : ∀ t, t < 2 → iT t < 4 ∧ lonV (iT t) = 2 - t ∧ ((stepsL (rows2.getD (iT t) [])).find? (fun x => decide (lonV x.2.toNat = lonV (iT t) - 1))) = some (cT t, ((iT (t + 1) : Nat) : Int)) ∧ outT (t + 1) = outT t ++ [letterOf (cT t)] ∧ iT t < iT (t + 1) ∧ iT (t + 1) < 4 ∧ cT t < 2 ∧ (outT t).length ≤ 2 := by decide +kernel
theorem find_first {α : Type} {p : α → Bool} {x : α} {rest : List α} : ∀ {pre : List α}, (∀ y ∈ pre, p y = false) → p x = true → (pre ++ ([x] ++ rest)).find? p = some x
  | [], _, hx => by simp [hx]
  | y :: pre, h, hx => by
    have hy := h y (by simp)
    rw [List.cons_append, List.find?_cons, hy]
    exact find_first (fun z hz => h z (List.mem_cons_of_mem _ hz)) hx
def NoL (d : Int) (pre : List (Nat × Int)) : Prop := ∀ y ∈ pre, ¬ lonV y.2.toNat = d - 1
def HitL (BS BL : Nat) (d : Int) (o : List UInt8) (pre : List (Nat × Int)) (V : World) : Prop := ∃ pre' x, pre = pre' ++ [x] ∧ NoL d pre' ∧ lonV x.2.toNat = d - 1 ∧ V.heap[BS]? = some (.cells #[sv (o ++ [letterOf x.1])] 9 (0, 0)) ∧ V.heap[BL]? = some (.cells #[.int .i64 x.2] 3 (0, 0))
def atOf (a : Act) (w : World) : Nat := match a.tmps.getD 9 undef with
  | .pointer (some p) => match w.cell? p with
    | some (.int _ c) => c.toNat
    | _ => 0
  | _ => 0
theorem atOf_eq {a : Act} {w : World} {p : Addr} {kd : IntKind} {c : Int} (h1 : a.tmps.getD 9 undef = .pointer (some p)) (h2 : w.cell? p = some (.int kd c)) : atOf a w = c.toNat := by
  unfold atOf; rw [h1]; simp only; rw [h2]
theorem lonsTo_get {j : Nat} (hj : j < 4) : gi (lonsTo 4) j = lonV j := by
  have : j = 0 ∨ j = 1 ∨ j = 2 ∨ j = 3 := by omega
  rcases this with rfl | rfl | rfl | rfl <;> rfl
set_option maxRecDepth 100000 in
set_option maxHeartbeats 6400000 in
theorem Longest_any (v : Value) (w : World) (hr : ReadsT w v ss2) (hm : MaxAt w) :
    Calls Try.prog 19 #[.int .i64 2, v] w fun e w' => e = .returned (.tuple #[sv [98, 97], .int .i64 0]) ∧ Below w.heap.size w w' := by
  have HR := Lib.hid hr
  have HMX := Lib.hid hm
  obtain ⟨vc, vcap, rfl, _, _⟩ := hr
  clear hm
  refine (callsIn_wide (n := 20)).1 ?_
  refine callsIn_of_wp_marks Try.func19 rfl trivial ?_ rfl
  simp only [Try.ntmps19, List.size_toArray, List.length_cons, List.length_nil, Nat.reduceAdd, Nat.reduceSub, Array.replicate_succ, Array.replicate_zero, List.push_toArray, List.append_toArray, List.nil_append, List.cons_append]
  gi_wp2_with fail
  refine ⟨trivial, (callsIn_wide.2 (isSet2_any _ _ HR.out)).mono ?_⟩
  rintro e w1 ⟨rfl, hb1⟩
  have hwl1 := hb1.size
  gi_wp2_with fail
  refine ⟨trivial, (callsIn_wide.2 (newMachine_any ss2 4 _ _ (HR.out.below hb1) (by decide) (HMX.out.below hb1) fine2)).mono ?_⟩
  rintro e w3 ⟨sval, nval, rfl, hms, hnr⟩
  have hmrd : MRd w3 (w1.heap.size + 1) 4 rows2 := by
    have := MRd.of hms hnr (by rw [mach_rows, (fineM_iff fine2).1]) (by rw [mach_rows]; omega)
    rw [(fineM_iff fine2).1] at this; exact this
  have hb3w := hb1.trans (hms.b.mono hb1.size)
  have hs13 := hms.b.size
  clear hms hnr hb1
  gi_wp2_with fail
  refine ⟨trivial, (callsIn_wide.2 (longest_any (w1.heap.size + 1) _ hmrd)).mono ?_⟩
  rintro e w4 ⟨lv, rfl, hrow, hb4⟩
  obtain ⟨la, lcap, rfl, _, _, hr3⟩ := hrow.reads
  obtain ⟨lb, loff, rfl, hlb, hlc⟩ := hr3.resolve_left (by intro e; have := lonsTo_len 4; rw [e] at this; simp at this)
  rw [lonsTo_len] at hlc ⊢
  have hmrd4 := hmrd.below hb4
  have hb4w := hb3w.trans (hb4.mono hb3w.size)
  generalize hP : w1.heap.size + 1 = P at *
  clear hP hmrd hb3w hrow hr3 hb4
  have hlc0 : w4.cell? ⟨lb, loff, none⟩ = some (.int .i64 (lonV 0)) := hlc 0 (by omega)
  have hal := (Below.refl w4.heap.size w4).alloc (Nat.le_refl _) (.cells #[.slice (some ⟨lb, loff, none⟩) 4 lcap] 51)
  have hl5 := heap_alloc_new w4 (.cells #[.slice (some ⟨lb, loff, none⟩) 4 lcap] 51)
  have hc0 := (hal.cell (p := ⟨lb, loff, none⟩) hlb).trans hlc0
  have hmrd5 := hmrd4.below hal
  have hb5w := hb4w.trans (hal.mono hb4w.size)
  have hlc5 : ∀ j, j < 4 → (w4.alloc (.cells #[.slice (some ⟨lb, loff, none⟩) 4 lcap] 51)).cell? ⟨lb, loff + j, none⟩ = some (.int .i64 (lonV j)) := fun j hj => by
    rw [← lonsTo_get hj]; exact (hal.cell (p := ⟨lb, loff + j, none⟩) hlb).trans (hlc j hj)
  have hl0 : ¬ lonV 0 < 0 := by have := lonV_nn 0; omega
  have hlb5 : lb < (w4.alloc (.cells #[.slice (some ⟨lb, loff, none⟩) 4 lcap] 51)).heap.size := by simp; omega
  clear hlc hlc0 hmrd4 hb4w hal
  generalize hl00 : lonV 0 = l00 at *
  gi_wp2_with fail
  have hWWs : (w4.alloc (.cells #[.slice (some ⟨lb, loff, none⟩) 4 lcap] 51)).heap.size = w4.heap.size + 1 := by simp
  generalize hWW : World.alloc w4 _ = WW at *
  generalize hB7 : w4.heap.size = B7 at *
  have hal := (((Below.refl WW.heap.size WW).alloc (Nat.le_refl _) (.cells #[sv []] 9)).alloc (by simp) (.cells #[.int .i64 0] 3))
  have h8 : ((WW.alloc (.cells #[sv []] 9)).alloc (.cells #[.int .i64 0] 3)).heap[WW.heap.size]? = some (.cells #[sv []] 9 (0, 0)) := alloc_old (heap_alloc_new _ _)
  have h9 : ((WW.alloc (.cells #[sv []] 9)).alloc (.cells #[.int .i64 0] 3)).heap[WW.heap.size + 1]? = some (.cells #[.int .i64 0] 3 (0, 0)) := heap_alloc_at _ _ _ (by simp)
  change Code.wpIn Fence.wide 20 Try.prog _ _ _ ((WW.alloc (.cells #[sv []] 9)).alloc (.cells #[.int .i64 0] 3))
  generalize hW6 : World.alloc (World.alloc WW _) _ = W6 at *
  have H8 := Lib.hid h8
  have H9 := Lib.hid h9
  have HAL := Lib.hid hal
  have HBW := Lib.hid (hb5w.trans (hal.mono hb5w.size))
  have HL := Lib.hid hl5
  have HLC := Lib.hid hlc5
  have HMR := Lib.hid hmrd5
  have hwW := hb5w.size
  obtain ⟨BS, hBS⟩ : ∃ b, B7 + 1 = b := ⟨_, rfl⟩
  rw [hBS]
  rw [hWWs, hBS] at H8 H9
  have hBSa : WW.heap.size ≤ BS := by omega
  have hBSb : BS ≤ WW.heap.size := by omega
  clear hWW hB7 hW6 hBS hWWs hal h8 h9 hl5 hlc5 hmrd5 hb5w hc0 hl0 hl00
  refine wpIn_loop (fun a' w' => ∃ (t BL : Nat) (u0 u1 u2 u3 u4 u5 u10 u11 u12 u13 u14 u15 u16 u17 u18 u19 u20 u21 u22 u23 u24 u25 u26 u27 u28 u29 u30 u31 u32 u33 u34 u35 u36 u37 u38 u39 u40 u41 u42 u43 u44 u45 u46 u47 u48 u49 u50 : Value) (ds : List Deferred), (t ≤ 2 ∧ BS + 1 ≤ BL) ∧ (w'.heap[BS]? = some (.cells #[sv (outT t)] 9 (0, 0)) ∧ w'.heap[BL]? = some (.cells #[.int .i64 (iT t : Nat)] 3 (0, 0)) ∧ Below w.heap.size w w' ∧ Below WW.heap.size WW w' ∧ Marks w.heap.size w'.heap.size ds w') ∧ a' = { tmps := #[u0, u1, u2, u3, u4, u5, .pointer (some ⟨P, 0, none⟩), .pointer (some ⟨B7, 0, none⟩), .pointer (some ⟨BS, 0, none⟩), .pointer (some ⟨BL, 0, none⟩), u10, u11, u12, u13, u14, u15, u16, u17, u18, u19, u20, u21, u22, u23, u24, u25, u26, u27, u28, u29, u30, u31, u32, u33, u34, u35, u36, u37, u38, u39, u40, u41, u42, u43, u44, u45, u46, u47, u48, u49, u50], defers := ds }) (fun (a' : Act) (w' : World) => 4 - atOf a' w') ⟨0, BS + 1, _, _, _, _, _, _, _, _, _, _, _, _, _, _, _, _, _, _, _, _, _, _, _, _, _, _, _, _, _, _, _, _, _, _, _, _, _, _, _, _, _, _, _, _, _, _, _, [], ⟨by omega, by omega⟩, ⟨H8.out, H9.out, HBW.out, HAL.out, trivial⟩, rfl⟩ ?_
  clear H8 H9 HBW HAL
  rintro a' W ⟨t, BL, u0, u1, u2, u3, u4, u5, u10, u11, u12, u13, u14, u15, u16, u17, u18, u19, u20, u21, u22, u23, u24, u25, u26, u27, u28, u29, u30, u31, u32, u33, u34, u35, u36, u37, u38, u39, u40, u41, u42, u43, u44, u45, u46, u47, u48, u49, u50, ds, ⟨ht, hBL⟩, ⟨h8, h9, hbw, hbW, hmk⟩, rfl⟩
  have q9 := cell_of h9 (j := 0) rfl
  have q7 := cell_of ((hbW.block _ (heap_lt HL.out)).trans HL.out) (j := 0) rfl
  by_cases ht2 : t < 2
  · obtain ⟨f1, f2, f3, f4, f5, f6, f7, f8⟩ := lgt_facts t ht2
    obtain ⟨row, hrow⟩ : ∃ r, rows2.getD (iT t) [] = r := ⟨_, rfl⟩
    have HF := Lib.hid (lon_facts (iT t) f1)
    rw [hrow] at HF f3
    obtain ⟨i, hi⟩ : ∃ i, iT t = i := ⟨_, rfl⟩
    obtain ⟨i2, hi2⟩ : ∃ i, iT (t + 1) = i := ⟨_, rfl⟩
    obtain ⟨o, ho⟩ : ∃ o, outT t = o := ⟨_, rfl⟩
    rw [hi] at h9 q9 f1 f2 f3 f5 HF hrow
    rw [hi2] at f3 f5 f6
    rw [ho] at h8 f4 f8
    have HF3 := Lib.hid f3
    have HF4 := Lib.hid f4
    have HI2 := Lib.hid hi2
    have cl := (hbW.cell (p := ⟨lb, loff + i, none⟩) hlb5).trans (HLC.out i f1)
    have hpos : 0 < lonV i := by omega
    have i0 : (0 : Int) ≤ (i : Int) := by omega
    have i4 : (i : Int) < 4 := by omega
    obtain ⟨⟨sa, scap, hsta⟩, ng, ncap, hn1', hn2⟩ := HMR.out
    obtain ⟨rowv, hrowc', hrowR⟩ := hn2 i f1
    rw [hrow] at hrowR
    have hn1 := (hbW.cell (p := ⟨P, 2, none⟩) (World.block_lt_of_cell? _ _ hn1')).trans hn1'
    have hrowc := (hbW.cell (p := ⟨ng, i, none⟩) (World.block_lt_of_cell? _ _ hrowc')).trans hrowc'
    have hld := lonV_le i
    generalize hd : lonV i = d at *
    have HD := Lib.hid hd
    clear f2 f3 f4 hi hi2 ho hn2 hd
    gi_wp2_with fail
    have HQ9 : Hid (W.cell? ⟨BL, 0, none⟩ = some (.int .i64 i)) := Lib.hid q9
    clear q9 q7 cl
    refine ⟨trivial, (callsIn_wide.2 (steps_any P i _)).mono ?_⟩
    rintro e w1 ⟨rfl, rfl⟩
    have hal : Below W.heap.size W ((W.alloc (.cells #[.pointer (some ⟨P, 0, none⟩)] 42)).alloc (.cells #[.int .i64 i] 3)) := ((Below.refl _ _).alloc (Nat.le_refl _) _).alloc (by simp) _
    have hb1 : ((W.alloc (.cells #[.pointer (some ⟨P, 0, none⟩)] 42)).alloc (.cells #[.int .i64 i] 3)).heap[W.heap.size]? = some (.cells #[.pointer (some ⟨P, 0, none⟩)] 42) := alloc_old (heap_alloc_new _ _)
    have hb2 : ((W.alloc (.cells #[.pointer (some ⟨P, 0, none⟩)] 42)).alloc (.cells #[.int .i64 i] 3)).heap[W.heap.size + 1]? = some (.cells #[.int .i64 i] 3) := heap_alloc_at _ _ _ (by simp)
    have x8 := (hal.block _ (heap_lt h8)).trans h8
    have x9 := (hal.block _ (heap_lt h9)).trans h9
    have xbw := hbw.trans (hal.mono hbw.size)
    have xbW := hbW.trans (hal.mono hbW.size)
    have xmk := hmk.below hal
    have xrc := (hal.cell (p := ⟨ng, i, none⟩) (World.block_lt_of_cell? _ _ hrowc)).trans hrowc
    have xn1 := (hal.cell (p := ⟨P, 2, none⟩) (World.block_lt_of_cell? _ _ hn1)).trans hn1
    have hszB : ((W.alloc (.cells #[.pointer (some ⟨P, 0, none⟩)] 42)).alloc (.cells #[.int .i64 i] 3)).heap.size = W.heap.size + 2 := by simp
    have hWs := hbW.size
    have hws := hbw.size
    have lBL := heap_lt h9
    clear h8 h9 hbw hbW hmk hrowc hn1
    generalize hWB : World.alloc (World.alloc W _) _ = WB at *
    generalize hB : W.heap.size = B at *
    clear hWB hal hB
    gi_wp2_with fail
    have hrr : ReadsS (fun b => b < WB.heap.size ∧ ¬ (b = BS ∨ b = BL ∨ b = WB.heap.size ∨ b = WB.heap.size + 1)) WB rowv row := (ReadsS.same (S := fun b => b < WW.heap.size) hrowR.s0 (SameS.of_below xbW (fun _ h => h))).mono (fun b hb => by omega)
    refine range_imgs (gf := 30) (lb := #[.pointer (some ⟨B, 0, none⟩), .pointer (some ⟨B + 1, 0, none⟩)]) rfl (enters_of Try.func30 (by kernel_rfl) rfl)
      (given_B (steps1_given (fun b => (b = BS ∨ b = BL ∨ b = WB.heap.size ∨ b = WB.heap.size + 1)) row P B (B + 1) ng 4 ncap i _ rowv WB (fun b hb => by omega) hb1 hb2 xn1 xrc f1 hrr (by have := HF.out.1; omega)))
      (fun A => KeepX.refl _ _) (fun h k => KeepX.trans h k) (fun W o' => KeepX.putObj (.inr (.inr (.inr rfl)))) (fun _ => rfl)
      (fun pre V => NoL d pre ∧ V.heap[BS]? = some (.cells #[sv o] 9 (0, 0)) ∧ V.heap[BL]? = some (.cells #[.int .i64 i] 3 (0, 0)) ∧ Below w.heap.size w V ∧ Below WW.heap.size WW V ∧ Marks w.heap.size B ds V ∧ B + 2 ≤ V.heap.size)
      (fun c pre V => c = .exit 2 ∧ HitL BS BL d o pre V ∧ Below w.heap.size w V ∧ Below WW.heap.size WW V ∧ Marks w.heap.size B ds V ∧ B + 2 ≤ V.heap.size)
      ?a1 ?hI ?hIx ?hIB ⟨fun y hy => (by cases hy), x8, x9, xbw, xbW, xmk, by omega⟩ ?assign ?body (fun pre x a' s W W' row h _ _ => h) ?done ?stop
    case assign =>
      intro l x W K hK
      simp only [stepEnc]
      gi_wp2
      exact hK
    case hI =>
      rintro s' V V' row' ⟨g1, h1, h2, h5, h5k, h6, h7⟩ hg hr
      exact ⟨g1, own_block hg hr (by omega) h1, own_block hg hr (by omega) h2, h5.grown hg h5.size (fun q e => by have := (hr q e).1; omega), h5k.grown hg h5k.size (fun q e => by have := (hr q e).1; omega), h6.grown hg (fun q e => by have := (hr q e).1; omega), Nat.le_trans h7 hg.size⟩
    case hIx =>
      rintro c s' V V' row' ⟨h0, ⟨pre', x, g1, g2, g3, g5, g6⟩, h5, h5k, h6, h7⟩ hg hr
      exact ⟨h0, ⟨pre', x, g1, g2, g3, own_block hg hr (by omega) g5, own_block hg hr (by omega) g6⟩, h5.grown hg h5.size (fun q e => by have := (hr q e).1; omega), h5k.grown hg h5k.size (fun q e => by have := (hr q e).1; omega), h6.grown hg (fun q e => by have := (hr q e).1; omega), Nat.le_trans h7 hg.size⟩
    case hIB =>
      rintro s' V b j v hb ⟨g1, h1, h2, h5, h5k, h6, h7⟩
      exact ⟨g1, (heap_setCell_other _ _ _ _ (by show BS ≠ b; omega)).trans h1, (heap_setCell_other _ _ _ _ (by show BL ≠ b; omega)).trans h2, h5.setCell (p := ⟨b, j, none⟩) (by show w.heap.size ≤ b; omega) _, h5k.setCell (p := ⟨b, j, none⟩) (by show WW.heap.size ≤ b; omega) _, h6.setCell _ _ _, by simpa using h7⟩
    case body =>
      rintro l pre ⟨c, jj⟩ V hl' ⟨hno, h8, h9, hbw, hbW, hmk, hsz⟩ hpx
      have hmem : (c, jj) ∈ stepsL row := hpx.subset (by simp)
      obtain ⟨hc2, hj0, hj4, _⟩ := HF.out.2.2.2.2 _ hmem
      obtain ⟨j, rfl⟩ : ∃ j : Nat, jj = (j : Int) := ⟨jj.toNat, by simp only at hj0; omega⟩
      have hj4' : j < 4 := by simp only at hj4; omega
      have he1 := bytes_abc hc2
      have q9 := cell_of h9 (j := 0) rfl
      have q7 := cell_of ((hbW.block _ (heap_lt HL.out)).trans HL.out) (j := 0) rfl
      have cli := (hbW.cell (p := ⟨lb, loff + i, none⟩) hlb5).trans (HLC.out i f1)
      have clj := (hbW.cell (p := ⟨lb, loff + j, none⟩) hlb5).trans (HLC.out j hj4')
      rw [HD.out] at cli
      have j0 : (0 : Int) ≤ (j : Int) := by omega
      have j1 : (j : Int) < 4 := by omega
      have hlj := lonV_le j
      have hnj := lonV_nn j
      have hwd : IntKind.i64.wrap (d - 1) = d - 1 := IntWalk.i64_in _ (by omega)
      have HNO := Lib.hid hno
      have H8 := Lib.hid h8
      have H9 := Lib.hid h9
      have HBW := Lib.hid hbw
      have HBWW := Lib.hid hbW
      have HMK := Lib.hid hmk
      have HSZ : Hid (B + 2 ≤ V.heap.size) := Lib.hid hsz
      have lb8 := heap_lt h8
      have lb9 := heap_lt h9
      have HJT : Hid (lonV ((j : Int)).toNat = lonV j) := Lib.hid (by rw [Int.toNat_natCast])
      clear hmem hj0 hj4 hpx hno h8 h9 hbw hbW hmk hsz
      by_cases hhit : lonV j = d - 1
      · have HHIT : Hid (lonV j = d - 1) := Lib.hid hhit
        generalize lonV j = xj at *
        have hdec : decide (xj = d - 1) = true := decide_eq_true hhit
        have hbeq : (xj == d - 1) = true := by simpa using hhit
        clear hhit
        gi_wp2_with fail
        refine region_quiet_round (by kernel_rfl) (by kernel_rfl) (by kernel_rfl) ?_
        repeat (gi_big_quiet_step (fail))
        refine wpQuietIn_nil ?_
        intro _ hw'
        obtain ⟨nq, hw''⟩ := hw'
        subst hw''
        have d8 := (heap_drewN V nq BS).trans H8.out
        have d9 := (heap_drewN V nq BL).trans H9.out
        have q8 := cell_of d8 (j := 0) rfl
        have q9' := cell_of d9 (j := 0) rfl
        have f8' := free_of d8 0
        have f9' := free_of d9 0
        have D8 := Lib.hid d8
        have D9 := Lib.hid d9
        obtain ⟨o2, ho2⟩ : ∃ y, o ++ [letterOf c] = y := ⟨_, rfl⟩
        have hcat : (⟨o.toArray⟩ : ByteArray) ++ ⟨#[letterOf c]⟩ = ⟨o2.toArray⟩ := by rw [← ho2]; exact bytes_add o [letterOf c]
        have ho2l : o2.length = o.length + 1 := by rw [← ho2]; simp
        have HO2 := Lib.hid ho2
        clear d8 d9 q7 q9 cli clj ho2
        gi_wp2_with fail
        refine ⟨((keeps_drewN _ V _).trans (keeps_set _ _ _ _ _)).trans (keeps_set _ _ _ _ _), ⟨by simp [size_drewN], fun b hb hx => (heap_setCell_other _ _ _ _ (fun e => hx (.inr (.inl e)))).trans ((heap_setCell_other _ _ _ _ (fun e => hx (.inl e))).trans (heap_drewN _ _ _))⟩, rfl, ⟨pre, (c, (j : Int)), rfl, HNO.out, by rw [HJT.out]; exact HHIT.out, ?_, ?_⟩, ?_, ?_, ?_, ?_⟩
        · rw [HO2.out]; exact (heap_setCell_other _ _ _ _ (by show BS ≠ BL; omega)).trans (set_heap_same D8.out)
        · exact set_heap_same ((heap_setCell_other _ _ _ _ (by show BL ≠ BS; omega)).trans D9.out)
        · exact ((HBW.out.trans ((below_drewN V nq).mono HBW.out.size)).setCell (p := ⟨BS, 0, none⟩) (by show w.heap.size ≤ BS; omega) _).setCell (p := ⟨BL, 0, none⟩) (by show w.heap.size ≤ BL; omega) _
        · exact ((HBWW.out.trans ((below_drewN V nq).mono HBWW.out.size)).setCell (p := ⟨BS, 0, none⟩) (by show WW.heap.size ≤ BS; omega) _).setCell (p := ⟨BL, 0, none⟩) (by show WW.heap.size ≤ BL; omega) _
        · exact ((HMK.out.below (below_drewN _ _)).setCell _ _ _).setCell _ _ _
        · have := HSZ.out; simpa [size_drewN] using this
      · have HHIT : Hid (¬ lonV j = d - 1) := Lib.hid hhit
        generalize lonV j = xj at *
        have hdec : decide (xj = d - 1) = false := decide_eq_false hhit
        have hbeq : (xj == d - 1) = false := by simpa using hhit
        gi_wp2_with fail
        refine region_quiet_round (by kernel_rfl) (by kernel_rfl) (by kernel_rfl) ?_
        repeat (gi_big_quiet_step (fail))
        refine wpQuietIn_nil ?_
        intro _ hw'
        obtain ⟨nq, hw''⟩ := hw'
        subst hw''
        gi_wp2_with fail
        refine ⟨keeps_drewN _ V _, KeepX.of_below (below_drewN V _), ?_, (heap_drewN V nq BS).trans H8.out, (heap_drewN V nq BL).trans H9.out, HBW.out.trans ((below_drewN V nq).mono HBW.out.size), HBWW.out.trans ((below_drewN V nq).mono HBWW.out.size), HMK.out.below (below_drewN _ _), by have := HSZ.out; simpa [size_drewN] using this⟩
        intro y hy
        rcases List.mem_append.1 hy with hy | hy
        · exact HNO.out y hy
        · rw [List.mem_singleton.1 hy]; show ¬ lonV ((j : Int)).toNat = d - 1; rw [HJT.out]; exact HHIT.out
    case done =>
      rintro D zs V hD rfl ⟨hno, _⟩ hK
      have h1 := List.find?_some HF3.out
      have h2 := List.mem_of_find?_eq_some HF3.out
      exact absurd (by simpa using h1) (hno _ h2)
    case stop =>
      rintro D c pre V hD hpre ⟨rfl, ⟨pre', x, g1, hno, hx, h8, h9⟩, hbw, hbW, hmk, hsz⟩ hK
      have hm2 := hmk.add (D := D) (by omega) (by omega) hK
      have HM3 : Hid (Marks w.heap.size V.heap.size ({ target := .collected D, args := #[] } :: ds) V) := Lib.hid (hm2.mono (by have := heap_lt hK; omega))
      obtain ⟨rest, hrest⟩ := hpre
      have hff : (stepsL row).find? (fun x => decide (lonV x.2.toNat = d - 1)) = some x := by
        rw [← hrest, g1, List.append_assoc]
        exact find_first (fun y hy => decide_eq_false (hno y hy)) (decide_eq_true hx)
      rw [HF3.out] at hff
      have hxe := Option.some.inj hff
      subst hxe
      have H8 : Hid (V.heap[BS]? = some (.cells #[sv (outT (t + 1))] 9 (0, 0))) := Lib.hid (by rw [HF4.out]; exact h8)
      have H9 : Hid (V.heap[BL]? = some (.cells #[.int .i64 i2] 3 (0, 0))) := Lib.hid h9
      have q9 := cell_of H9.out (j := 0) rfl
      have HBW := Lib.hid hbw
      have HBWW := Lib.hid hbW
      clear g1 hno hx h8 h9 hbw hbW hmk hm2 hK hff hrest
      gi_wp2_with fail
      refine ⟨⟨t + 1, V.heap.size, _, _, _, _, _, _, _, _, _, _, _, _, _, _, _, _, _, _, _, _, _, _, _, _, _, _, _, _, _, _, _, _, _, _, _, _, _, _, _, _, _, _, _, _, _, _, _, _, ⟨by omega, by have := heap_lt H8.out; omega⟩, ⟨rec_old H8.out, by rw [HI2.out]; exact rec_new, rec_below HBW.out, rec_below HBWW.out, rec_marks HM3.out⟩, by rfl⟩, ?_⟩
      rw [atOf_eq (p := ⟨V.heap.size, 0, none⟩) rfl (cell_of rec_new (j := 0) rfl), atOf_eq (p := ⟨BL, 0, none⟩) rfl HQ9.out]
      omega
  · have hte : t = 2 := by omega
    subst hte
    have HMK := Lib.hid hmk
    have HBW := Lib.hid hbw
    have q8 := cell_of h8 (j := 0) rfl
    have cl : W.cell? ⟨lb, loff + 3, none⟩ = some (.int .i64 0) := (hbW.cell (p := ⟨lb, loff + 3, none⟩) hlb5).trans (HLC.out 3 (by omega))
    rw [show ((iT 2 : Nat) : Int) = 3 from rfl] at h9
    have q9' : W.cell? ⟨BL, 0, none⟩ = some (.int .i64 3) := cell_of h9 (j := 0) rfl
    clear q9
    clear h8 h9 hbw hbW hmk
    gi_wp2_with fail
    refine leave_marks _ _ _ HMK.out fun w' hsh => ?_
    exact ⟨_, results_tmp2 rfl _ _ _, rfl, HBW.out.trans hsh.below⟩
end Go.Proofs.Ytfjbggodniemeaa
