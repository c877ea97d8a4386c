/- Complete. -/
import Derived.Test.YtbkjdpdihnloeaaItem
import Derived.Test.YtbkjdpdihnloeaaROrd
set_option linter.unusedVariables false
set_option linter.unusedSimpArgs false
namespace Go.Proofs.Ytbkjdpdihnloeaa
open Go.RowKit Go.Shelf
attribute [local go_sem] Oper.semAt_some

/-- the first clear order with a beginning -/
def complL (xs : List Int) (n : Nat) : Option (List Int) := (clearsL n xs)[0]?
def complE (o : Option (List Int)) : Int := if o.isSome then 0 else 6
def complS (xs : List Int) (n : Int) : List Int × Int := if (withinB n 1 7 && decide ((xs.length : Int) ≤ n) && rowsB xs n) = true then ((complL xs n.toNat).getD [], complE (complL xs n.toNat)) else ([], 2)
theorem complS_no {xs : List Int} {n : Int} (h : rowsB xs n = false) : complS xs n = ([], 2) := by unfold complS; rw [h]; simp
theorem complS_ok {xs : List Int} {n : Nat} (h1 : withinB n 1 7 = true) (h2 : xs.length ≤ n) (h3 : rowsB xs n = true) : complS xs n = ((complL xs n).getD [], complE (complL xs n)) := by
  unfold complS; rw [h1, h3, decide_eq_true (by omega : (xs.length : Int) ≤ (n : Int))]; rfl
theorem rows_small {xs : List Int} {n : Nat} (hn : n ≤ 1000) (h : rowsB xs n = true) : ∀ j, 0 ≤ gi xs j ∧ gi xs j ≤ 1000 := fun j => by
  by_cases hj : j < xs.length
  · have := (rowsB_iff.1 h).1 j hj; omega
  · have : gi xs j = 0 := by simp [gi, List.getElem?_eq_none (Nat.le_of_not_lt hj)]
    omega

set_option maxRecDepth 100000 in
set_option maxHeartbeats 3200000 in
theorem Complete_ok (v : Value) (xs : List Int) (n : Nat) (w : World) (hr : Reads w v xs) (h1 : 1 ≤ n) (h7 : n ≤ 7) (hl : xs.length ≤ n) :
    Calls Try.prog 11 #[v, .int .i64 n] w (RetReads w (complS xs n).1 (complS xs n).2) := by
  have hr0 := hr
  obtain ⟨a, cap, rfl, hc1, hc2, hcell⟩ := hr.open
  have hw : withinB n 1 7 = true := withinB_iff.2 ⟨by omega, by omega⟩
  have HW := Lib.hid hw
  have tl : decide (n < xs.length) = false := decide_eq_false (by omega)
  have hcap : cap ≤ 9223372036854775807 := by unfold maxLen at hc2; omega
  clear hw hr hc2
  refine (callsIn_wide (n := 20)).1 ?_
  refine callsIn_of_wp_marks Try.func11 rfl trivial ?_ rfl
  simp only [Try.ntmps11, List.size_toArray, List.length_cons, List.length_nil, Nat.reduceAdd, Nat.reduceSub, Array.replicate_succ, Array.replicate_zero, List.push_toArray, List.append_toArray, List.nil_append, List.cons_append]
  gi_wp2_with fail
  refine ⟨trivial, (callsIn_wide.2 (within_any _ _ _ _)).mono ?_⟩
  rintro e w' ⟨rfl, rfl⟩
  rw [HW.out]
  gi_wp2_with fail
  generalize hW1 : World.alloc (World.alloc w _) _ = W1
  have hsz1 : W1.heap.size = w.heap.size + 2 := by rw [← hW1]; simp
  have hbW1 : Below w.heap.size w W1 := by rw [← hW1]; exact (((Below.refl _ _).alloc (Nat.le_refl _) _).alloc (by simp) _)
  have hb0 : W1.heap[w.heap.size]? = some (.cells #[.slice none 0 0] 22) := by rw [← hW1]; exact alloc_old (heap_alloc_new _ _)
  have hb1 : W1.heap[w.heap.size + 1]? = some (.cells #[.int .i64 0] 24) := by rw [← hW1]; exact heap_alloc_at _ _ _ (by simp)
  clear hW1
  have hr1 := hr0.below hbW1
  have HC : Hid (∀ k, k < xs.length → ∃ b off, a = some ⟨b, off, none⟩ ∧ W1.cell? ⟨b, off + k, none⟩ = some (.int .i64 (gi xs k))) := Lib.hid (fun k hk => by
    obtain ⟨b, off, h1, h2, h3⟩ := hcell k hk
    exact ⟨b, off, h1, (hbW1.cell (p := ⟨b, off + k, none⟩) h2).trans h3⟩)
  clear hcell
  gi_loopw [20] (fun i wr => ∃ k : Nat, k ≤ xs.length ∧ i = .int .i64 k ∧ goodTo xs n k ∧ wr = W1) (fun i _ => xs.length - (intOf i).toNat)
  case atStart => exact ⟨0, by omega, rfl, goodTo_zero _ _, rfl⟩
  case round =>
    obtain ⟨k, hk, rfl, hg, rfl⟩ := hrel
    have HG := Lib.hid hg
    clear hg
    by_cases hlt : k < xs.length
    · obtain ⟨b, off, rfl, hck⟩ := HC.out k hlt
      have k0 : (0 : Int) ≤ (k : Int) := by omega
      have k1 : (k : Int) < (xs.length : Int) := by omega
      have k2 : (k : Int) ≤ (cap : Int) := by omega
      rcases hwb : withinB (gi xs k) 0 ((n : Int) - 1) with _ | _
      · have HWB := Lib.hid hwb
        clear hwb
        gi_wp2_with fail
        refine ⟨trivial, (callsIn_wide.2 (within_any _ _ _ _)).mono ?_⟩
        rintro e w' ⟨rfl, rfl⟩
        rw [HWB.out]
        gi_wp2_with fail
        refine ⟨trivial, ?_⟩
        have HNO : Hid (complS xs n = ([], 2)) := Lib.hid (complS_no (rowsB_no (k := k + 1) (by omega) fun hgt => by
          have h9 := ((goodTo_succ hlt).1 hgt).2.1
          have h8 := HWB.out
          rw [withinB_iff.2 ⟨h9.1, by omega⟩] at h8; cases h8))
        have f0 := free_of hb0 0
        have f1 := free_of hb1 0
        have c0 := cell_of hb0 (j := 0) rfl
        have c1 := cell_of hb1 (j := 0) rfl
        gi_wp2_with fail
        obtain ⟨p1, p2, p3, p4⟩ := put2 (X := fun _ => True) hb0 hb1 (by omega) trivial trivial (.slice none 0 0) (.int .i64 2)
        refine ⟨_, results_cell2 (g1 := w.heap.size) (g2 := w.heap.size + 1) rfl rfl rfl (loadVar_cell (by kernel_rfl) p3) (loadVar_cell (by kernel_rfl) p4), ?_⟩
        rw [HNO.out]
        exact RetReads.nil ((hbW1.setCell (p := ⟨w.heap.size, 0, none⟩) (by simp) _).setCell (p := ⟨w.heap.size + 1, 0, none⟩) (by simp) _)
      · have HWB := Lib.hid hwb
        clear hwb
        have hrk : Reads wr (.slice (some ⟨b, off, none⟩) k cap) (xs.take k) := hr1.take hk
        by_cases hm : gi xs k ∈ xs.take k
        · have HM := Lib.hid hm
          clear hm
          gi_wp2_with fail
          refine ⟨trivial, (callsIn_wide.2 (within_any _ _ _ _)).mono ?_⟩
          rintro e w' ⟨rfl, rfl⟩
          rw [HWB.out]
          gi_wp2_with fail
          refine ⟨trivial, (callsIn_wide.2 (contains_yes _ (xs.take k) _ _ hrk HM.out)).mono ?_⟩
          rintro e w' ⟨rfl, rfl⟩
          have HNO : Hid (complS xs n = ([], 2)) := Lib.hid (complS_no (rowsB_no (k := k + 1) (by omega) fun hgt => ((goodTo_succ hlt).1 hgt).2.2 HM.out))
          have f0 := free_of hb0 0
          have f1 := free_of hb1 0
          have c0 := cell_of hb0 (j := 0) rfl
          have c1 := cell_of hb1 (j := 0) rfl
          gi_wp2_with fail
          obtain ⟨p1, p2, p3, p4⟩ := put2 (X := fun _ => True) hb0 hb1 (by omega) trivial trivial (.slice none 0 0) (.int .i64 2)
          refine ⟨_, results_cell2 (g1 := w.heap.size) (g2 := w.heap.size + 1) rfl rfl rfl (loadVar_cell (by kernel_rfl) p3) (loadVar_cell (by kernel_rfl) p4), ?_⟩
          rw [HNO.out]
          exact RetReads.nil ((hbW1.setCell (p := ⟨w.heap.size, 0, none⟩) (by simp) _).setCell (p := ⟨w.heap.size + 1, 0, none⟩) (by simp) _)
        · have HM := Lib.hid hm
          clear hm
          gi_wp2_with fail
          refine ⟨trivial, (callsIn_wide.2 (within_any _ _ _ _)).mono ?_⟩
          rintro e w' ⟨rfl, rfl⟩
          rw [HWB.out]
          gi_wp2_with fail
          refine ⟨trivial, (callsIn_wide.2 (contains_no _ (xs.take k) _ _ hrk HM.out)).mono ?_⟩
          rintro e w' ⟨rfl, rfl⟩
          gi_wp2_with fail
          go_roundw
          case rel =>
            exact ⟨k + 1, by omega, by go_num, (goodTo_succ hlt).2 ⟨HG.out, (by have := withinB_iff.1 HWB.out; omega), HM.out⟩, trivial⟩
          case measure => simp [intOf]; omega
    · obtain rfl : k = xs.length := by omega
      have hrb : rowsB xs n = true := rowsB_iff.2 HG.out
      have hcs := complS_ok HW.out hl hrb
      have HCS := Lib.hid hcs
      have HSM := Lib.hid (rows_small (by omega) hrb)
      clear hrb hcs
      gi_wp2_with fail
      refine ⟨trivial, (callsIn_wide.2 (clear_any _ _ _ _ _)).mono ?_⟩
      rintro e w' ⟨rfl, rfl⟩
      gi_wp2_with fail
      generalize hW0 : World.alloc (World.alloc wr _) _ = W0
      have hsz : W0.heap.size = w.heap.size + 4 := by rw [← hW0]; simp; omega
      have hbW0 : Below wr.heap.size wr W0 := by rw [← hW0]; exact ((Below.refl _ _).alloc (Nat.le_refl _) _).alloc (by simp) _
      have hbW : Below w.heap.size w W0 := hbW1.trans (hbW0.mono hbW1.size)
      have hc0 : W0.heap[w.heap.size]? = some (.cells #[.slice none 0 0] 22) := (hbW0.block _ (by omega)).trans hb0
      have hc1 : W0.heap[w.heap.size + 1]? = some (.cells #[.int .i64 0] 24) := (hbW0.block _ (by omega)).trans hb1
      have hb3 : W0.heap[w.heap.size + 2]? = some (.cells #[.slice a xs.length cap] 22) := by rw [← hW0]; exact alloc_old (heap_alloc_at _ _ _ (by omega))
      have hb4 : W0.heap[w.heap.size + 2 + 1]? = some (.cells #[.int .i64 n] 3) := by rw [← hW0]; exact heap_alloc_at _ _ _ (by simp; omega)
      have hrS : Reads W0 (.slice a xs.length cap) xs := hr1.below hbW0
      clear hW0 hb0 hb1 hbW0 hr1 hbW1
      refine range_given (gf := 24) (lb := #[.pointer (some ⟨w.heap.size + 2 + 1, 0, none⟩), .pointer (some ⟨w.heap.size + 2, 0, none⟩)]) rfl (enters_of Try.func24 (by kernel_rfl) rfl)
        (clear1_given (fun b => b = w.heap.size ∨ b = w.heap.size + 1 ∨ b = W0.heap.size ∨ b = W0.heap.size + 1) n (by omega) xs (by omega) HSM.out (.slice a xs.length cap) (w.heap.size + 2 + 1) (w.heap.size + 2) _ W0 (by omega) (by omega) (by omega) hb4 hb3 hrS)
        (fun h k => KeepX.trans h k) (fun W o' => KeepX.putObj (.inr (.inr (.inr rfl)))) (fun _ => rfl)
        (fun pre W => pre = [] ∧ W.heap[w.heap.size]? = some (.cells #[.slice none 0 0] 22) ∧ W.heap[w.heap.size + 1]? = some (.cells #[.int .i64 0] 24) ∧ Below w.heap.size w W)
        (fun c pre' W => c = .ret ∧ ∃ x, pre' = [x] ∧ W.heap[w.heap.size]? = some (.cells #[x.1] 22) ∧ W.heap[w.heap.size + 1]? = some (.cells #[.int .i64 0] 24) ∧ Reads W x.1 x.2 ∧ Below w.heap.size w W)
        ?hI ?hIx ⟨rfl, hc0, hc1, hbW⟩
        (fun pre x a' W => Given2 (fun b => b = w.heap.size ∨ b = w.heap.size + 1 ∨ b = W0.heap.size ∨ b = W0.heap.size + 1) W x.1 x.2 ∧ a' = { tmps := #[.slice a xs.length cap, .int .i64 n, undef, undef, .pointer (some ⟨w.heap.size, 0, none⟩), .pointer (some ⟨w.heap.size + 1, 0, none⟩), u6, u7, x.1, .int .i64 n, .bool true, .bool false, .bool false, .slice a xs.length cap, .int .i64 xs.length, .int .i64 n, .bool false, .bool false, .slice a xs.length cap, .int .i64 xs.length, .int .i64 xs.length, .bool false, u22, u23, u24, u25, u26, u27, u28, u29, u30, u31, u32, u33, u34, u35, u36, u37, .slice a xs.length cap, .int .i64 n, .func (.func 24) #[] #[.pointer (some ⟨w.heap.size + 2 + 1, 0, none⟩), .pointer (some ⟨w.heap.size + 2, 0, none⟩)], x.1, undef], defers := [] })
        ?hAx ?assign ?body ?done ?stop
      case hI =>
        rintro s W W' row ⟨h0, h1, h2, h5⟩ hg hr
        exact ⟨h0, own_block hg hr (by omega) h1, own_block hg hr (by omega) h2, h5.grown hg h5.size (fun k e => by have := (hr k e).1; omega)⟩
      case hIx =>
        rintro c s W W' row ⟨h0, x, h1, h3, h4, h5, h6⟩ hg hr
        exact ⟨h0, x, h1, own_block hg hr (by omega) h3, own_block hg hr (by omega) h4, h5.grown hg hr, h6.grown hg h6.size (fun k e => by have := (hr k e).1; omega)⟩
      case hAx =>
        rintro pre x a' s W W' row ⟨h1, h2⟩ hg hr
        exact ⟨h1.grown hg hr, h2⟩
      case assign =>
        rintro l pre ⟨x, lx⟩ W K hI ⟨hx, hxn⟩ hK
        clear hxn
        have hx0 := hx
        obtain ⟨ax, capx, hxe, _⟩ := hx.open
        simp only at hxe
        subst hxe
        simp only [ordEnc] at hK ⊢
        gi_wp2
        exact hK _ _ (KeepsFrom.refl _ _) (KeepX.refl _ _) hI ⟨hx0, by kernel_rfl⟩
      case body =>
        rintro l pre ⟨x, lx⟩ a' W hl hr ⟨rfl, g2, g3, g5⟩ ⟨hgv, rfl⟩
        obtain ⟨ax, capx, hxe, _⟩ := hgv.open
        simp only at hxe
        subst hxe
        have f2 := free_of g2 0
        have f3 := free_of g3 0
        have c2 := cell_of g2 (j := 0) rfl
        have c3 := cell_of g3 (j := 0) rfl
        gi_wp2
        obtain ⟨p1, p2, p3, p4⟩ := put2 (X := fun b => b = w.heap.size ∨ b = w.heap.size + 1 ∨ b = W0.heap.size ∨ b = W0.heap.size + 1) g2 g3 (by omega) (.inl rfl) (.inr (.inl rfl)) (.slice ax lx.length capx) (.int .i64 0)
        rw [hsz] at p2
        exact ⟨p1.from _, p2, rfl, _, _, rfl, p3, p4, Given2.reads (Reads.keepX hgv (by rw [hsz]; exact p2)), (g5.setCell (p := ⟨w.heap.size, 0, none⟩) (by simp) _).setCell (p := ⟨w.heap.size + 1, 0, none⟩) (by simp) _⟩
      case done =>
        rintro D zs W hD hzs ⟨rfl, g2, g3, g5⟩ hK
        have f2 := free_of g2 0
        have f3 := free_of g3 0
        have c2 := cell_of g2 (j := 0) rfl
        have c3 := cell_of g3 (j := 0) rfl
        have hN : complL xs n = none := by unfold complL; rw [← hzs]; rfl
        have HN := Lib.hid hN
        clear hN hzs
        gi_wp2
        obtain ⟨p1, p2, p3, p4⟩ := put2 (X := fun _ => True) g2 g3 (by omega) trivial trivial (.slice none 0 0) (.int .i64 6)
        have hK2 := p1.same D _ hK rfl
        refine ⟨by simp, .inl ⟨_, _, rfl, run_takeDeferred hK2, ?_⟩⟩
        rw [HCS.out, HN.out]
        refine ⟨_, results_cell2 (g1 := w.heap.size) (g2 := w.heap.size + 1) rfl rfl rfl (loadVar_cell (by kernel_rfl) (putObj_other p3 (by omega))) (loadVar_cell (by kernel_rfl) (putObj_other p4 (by omega))), _, rfl, Reads.nil _, ?_⟩
        exact ((g5.setCell (p := ⟨w.heap.size, 0, none⟩) (by simp) _).setCell (p := ⟨w.heap.size + 1, 0, none⟩) (by simp) _).trans (belowK_b (w := w) (Nat.le_refl _) _ D _ _ (by omega) hK2 rfl rfl)
      case stop =>
        rintro D c pre' W hD hpre ⟨rfl, x, h1, h3, h4, h5, h6⟩ hK
        subst h1
        have hN : complL xs n = some x.2 := by
          obtain ⟨r, hr⟩ := hpre
          unfold complL
          rw [← hr]; rfl
        have HN := Lib.hid hN
        clear hN hpre
        gi_wp2
        refine ⟨by simp, .inl ⟨_, _, rfl, run_takeDeferred hK, ?_⟩⟩
        rw [HCS.out, HN.out]
        refine ⟨_, results_cell2 (g1 := w.heap.size) (g2 := w.heap.size + 1) rfl rfl rfl (loadVar_cell (by kernel_rfl) (putObj_other h3 (by omega))) (loadVar_cell (by kernel_rfl) (putObj_other h4 (by omega))), _, rfl, reads_putDeferred h5 hK, ?_⟩
        exact h6.trans (belowK_b (w := w) (Nat.le_refl _) _ D _ _ (by omega) hK rfl rfl)

set_option maxRecDepth 100000 in
set_option maxHeartbeats 800000 in
theorem Complete_err (v : Value) (xs : List Int) (n : Int) (w : World) (hr : Reads w v xs) (h : (withinB n 1 7 && decide ((xs.length : Int) ≤ n)) = false) :
    Calls Try.prog 11 #[v, .int .i64 n] w (RetReads w [] 2) := by
  obtain ⟨a, cap, rfl, _, _, _⟩ := hr.open
  clear hr
  rcases hw : withinB n 1 7 with _ | _
  · have HW := Lib.hid hw
    clear hw h
    go_enter Try.func11, Try.ntmps11
    go_wp2_with (go_at_call 22; refine (within_any _ _ _ _).mono ?_; rintro e w' ⟨rfl, rfl⟩; rw [HW.out])
    refine bodyPost_ret (v := .tuple #[.slice none 0 0, .int .i64 2]) (by simp [results, Try.results11, go_sem]) rfl (RetReads.nil ?_)
    exact (((Below.refl _ _).alloc (Nat.le_refl _) _).alloc (by simp) _)
  · rw [hw, Bool.true_and, decide_eq_false_iff_not] at h
    have t7 : decide (n < (xs.length : Int)) = true := decide_eq_true (by omega)
    have HW := Lib.hid hw
    clear hw h
    go_enter Try.func11, Try.ntmps11
    go_wp2_with (go_at_call 22; refine (within_any _ _ _ _).mono ?_; rintro e w' ⟨rfl, rfl⟩; rw [HW.out])
    refine bodyPost_ret (v := .tuple #[.slice none 0 0, .int .i64 2]) (by simp [results, Try.results11, go_sem]) rfl (RetReads.nil ?_)
    exact (((Below.refl _ _).alloc (Nat.le_refl _) _).alloc (by simp) _)
theorem Complete_any (v : Value) (xs : List Int) (n : Int) (w : World) (hr : Reads w v xs) : Calls Try.prog 11 #[v, .int .i64 n] w (RetReads w (complS xs n).1 (complS xs n).2) := by
  rcases h : (withinB n 1 7 && decide ((xs.length : Int) ≤ n)) with _ | _
  · have e : complS xs n = ([], 2) := by unfold complS; rw [h]; rfl
    rw [e]; exact Complete_err v xs n w hr h
  · rw [Bool.and_eq_true, decide_eq_true_eq] at h
    obtain ⟨h1, h2⟩ := withinB_iff.1 h.1
    obtain ⟨m, rfl⟩ : ∃ m : Nat, n = m := ⟨n.toNat, by omega⟩
    exact Complete_ok v xs m w hr (by omega) (by omega) (by omega)
end Go.Proofs.Ytbkjdpdihnloeaa
