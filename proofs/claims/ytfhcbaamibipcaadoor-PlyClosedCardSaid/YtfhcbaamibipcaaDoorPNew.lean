/- ply: newCells. -/
import Derived.Test.YtfhcbaamibipcaaDoorPCodes
set_option linter.unusedVariables false
set_option linter.unusedSimpArgs false
namespace Go.Proofs.YtfhcbaamibipcaaDoor
open Go.RowKit

def natsOf (l : List Int) : List Nat := l.map Int.toNat
theorem natsOf_len (l : List Int) : (natsOf l).length = l.length := by simp [natsOf]
/-- as many codes as there are points -/
def okB (l : List Int) : Bool := decide (1 ≤ l.length) && decide (l.length ≤ 6) && codesB l.length l
theorem setB_iff {n : Nat} {x : Int} : setB n x = true ↔ 0 ≤ x ∧ x < 2 ^ n := by unfold setB; rw [decide_eq_true_eq]
theorem ok_nats {l : List Int} (h : codesB l.length l = true) : l = ofNats (natsOf l) := by
  unfold ofNats natsOf
  rw [List.map_map]
  refine List.ext_getElem (by simp) fun i h1 h2 => ?_
  have := setB_iff.1 (codesB_iff.1 h i h1)
  rw [gi_lt h1] at this
  simp
  omega
theorem cell_nats (l : List Int) (p : Nat) : cell (natsOf l) p = (gi l p).toNat := by
  unfold cell natsOf gi
  rw [List.getD_eq_getElem?_getD, List.getD_eq_getElem?_getD, List.getElem?_map]
  cases l[p]? <;> rfl
theorem ok_codes {l : List Int} (h : okB l = true) : Codes (natsOf l) ∧ l = ofNats (natsOf l) := by
  unfold okB at h
  rw [Bool.and_eq_true, Bool.and_eq_true, decide_eq_true_eq, decide_eq_true_eq] at h
  refine ⟨⟨by rw [natsOf_len]; exact h.1.1, by rw [natsOf_len]; exact h.1.2, fun p => ?_⟩, ok_nats h.2⟩
  rw [cell_nats, natsOf_len]
  by_cases hp : p < l.length
  · have h2 := setB_iff.1 (codesB_iff.1 h.2 p hp)
    have : ((2 : Int) ^ l.length) = ((2 ^ l.length : Nat) : Int) := by push_cast; rfl
    omega
  · have : gi l p = 0 := by unfold gi; rw [List.getD_eq_getElem?_getD, List.getElem?_eq_none (by omega)]; rfl
    rw [this]; exact Nat.two_pow_pos _
def fillTo (cs : List Nat) (k j : Nat) : Nat := if j < k then cell cs j else 0
theorem fillTo_all {cs : List Nat} (j : Nat) : fillTo cs cs.length j = cell cs j := by
  unfold fillTo
  by_cases h : j < cs.length
  · rw [if_pos h]
  · rw [if_neg h, cell_far (by omega)]
theorem SpF.same {w : World} {b n : Nat} {c c' : Nat → Nat} (h : SpF w b n c) (hc : ∀ j, c j = c' j) : SpF w b n c' := by
  obtain rfl : c = c' := funext hc
  exact h

set_option maxRecDepth 100000 in
set_option maxHeartbeats 1600000 in
theorem newCells_ok (v : Value) (cs : List Nat) (w : World) (hr : Reads w v (ofNats cs)) (hc : Codes cs) :
    Calls Tryd.prog 26 #[v] w fun e w' => e = .returned (.tuple #[spV cs, .bool true]) ∧ Below w.heap.size w w' := by
  have hr0 := hr
  obtain ⟨a, cap, rfl, _, _, hcell⟩ := hr.open
  have hlen := ofNats_len cs
  rw [hlen] at hr0 hcell ⊢
  have hw : withinB (cs.length : Int) 1 6 = true := withinB_iff.2 ⟨by have := hc.1; omega, by have := hc.2.1; omega⟩
  have hco : codesB cs.length (ofNats cs) = true := codesB_iff.2 fun k hk => by
    rw [gi_nats, setB_iff]
    have := hc.2.2 k
    have e : ((2 : Int) ^ cs.length) = ((2 ^ cs.length : Nat) : Int) := by push_cast; rfl
    omega
  have hn6 := hc.2.1
  have hfa : ∀ j, fillTo cs cs.length j = cell cs j := fillTo_all
  have h64 := cell_64 hc
  clear hc hr
  generalize hn : cs.length = n at *
  have HCELL := Lib.hid hcell
  have HW := Lib.hid hw
  have HCO := Lib.hid hco
  have HR := Lib.hid hr0
  have H64 := Lib.hid h64
  have HFA := Lib.hid hfa
  have HN := Lib.hid hn
  have HLEN := Lib.hid hlen
  clear hw hco hr0 hfa h64 hn hlen hcell
  go_enter Tryd.func26, Tryd.ntmps26
  go_wp2_with fail
  refine (within_any _ _ _ _).mono ?_
  rintro e w1 ⟨rfl, rfl⟩
  have hb1 : Below w.heap.size w ((w.alloc (.cells #[.int .i64 0, .int .u64 0, .int .u64 0, .int .u64 0, .int .u64 0, .int .u64 0, .int .u64 0] 35)).alloc (.cells #[.int .i64 n, .int .u64 0, .int .u64 0, .int .u64 0, .int .u64 0, .int .u64 0, .int .u64 0] 35)) := ((Below.refl _ _).alloc (Nat.le_refl _) _).alloc (by simp) _
  have hr1 : SpF ((w.alloc (.cells #[.int .i64 0, .int .u64 0, .int .u64 0, .int .u64 0, .int .u64 0, .int .u64 0, .int .u64 0] 35)).alloc (.cells #[.int .i64 n, .int .u64 0, .int .u64 0, .int .u64 0, .int .u64 0, .int .u64 0, .int .u64 0] 35)) w.heap.size 0 (fun _ => 0) := alloc_old (heap_alloc_new _ _)
  have hr2 : SpF ((w.alloc (.cells #[.int .i64 0, .int .u64 0, .int .u64 0, .int .u64 0, .int .u64 0, .int .u64 0, .int .u64 0] 35)).alloc (.cells #[.int .i64 n, .int .u64 0, .int .u64 0, .int .u64 0, .int .u64 0, .int .u64 0, .int .u64 0] 35)) (w.heap.size + 1) n (fun _ => 0) := heap_alloc_at _ _ _ (by simp)
  generalize hW1 : World.alloc (World.alloc w _) _ = W1 at hb1 hr1 hr2 ⊢
  clear hW1
  have q1 := hr2.n
  rw [HW.out]
  go_wp2_with fail
  refine (areCodes_any n _ (ofNats cs) _ hn6 (HR.out.below hb1)).mono ?_
  rintro e w2 ⟨rfl, hb2⟩
  rw [HCO.out]
  have hr3 := hr1.below hb2
  have hr4 := hr2.below hb2
  have hb3 := hb1.trans (hb2.mono hb1.size)
  have hlt1 := hr1.lt
  clear hr1 hr2 hb1 q1 hb2
  go_wp2_with fail
  go_loopw [24] (fun i wr => ∃ k : Nat, k ≤ n ∧ i = .int .i64 k ∧ SpF wr w.heap.size 0 (fun _ => 0) ∧ SpF wr (w.heap.size + 1) n (fillTo cs k) ∧ Below w.heap.size w wr) (fun i _ => n - (intOf i).toNat)
  case atStart => exact ⟨0, by omega, rfl, hr3, hr4.same (fun j => by simp [fillTo]), hb3⟩
  case round =>
    obtain ⟨k, hk, rfl, s1, s2, hbr⟩ := hrel
    by_cases hlt : k < n
    · obtain ⟨b, off, rfl, hbl, hck⟩ := HCELL.out k hlt
      rw [gi_nats] at hck
      have hck2 := (hbr.cell (p := ⟨b, off + k, none⟩) hbl).trans hck
      have hc64 := H64.out k
      have k0 : (0 : Int) ≤ (k : Int) := by omega
      have k1 : (k : Int) < (n : Int) := by omega
      have k6 : (k : Int) < 6 := by omega
      have hwr := wrapU (cell cs k) (by omega)
      have fz := s2.free (1 + k)
      have q1 := s2.cell (p := k) (by omega)
      have s3 := SpF.set (c' := fillTo cs (k + 1)) s2 (p := k) (by omega) (v := cell cs k) (fun j hj => by
        unfold fillTo
        by_cases e : j = k
        · subst e; simp
        · by_cases h : j < k
          · simp [h, e, show j < k + 1 by omega]
          · simp [h, e, show ¬ j < k + 1 by omega])
      have s4 := s1.other (k := w.heap.size + 1) (j := 1 + k) (u := .int .u64 (cell cs k)) (by omega)
      have hbn := hbr.setCell (p := ⟨w.heap.size + 1, 1 + k, none⟩) (by simp) (.int .u64 (cell cs k))
      have S3 := Lib.hid s3
      have S4 := Lib.hid s4
      have HBN := Lib.hid hbn
      clear hck s3 s4 hbn
      go_wp2_with fail
      go_roundw
      case rel => exact ⟨k + 1, by omega, by go_num, S4.out, S3.out, HBN.out⟩
      case measure => simp [intOf]; omega
    · obtain rfl : k = n := by omega
      obtain ⟨d0, d1, d2, d3, d4, d5, d6⟩ := s2.cells
      obtain ⟨e0, e1, e2, e3, e4, e5, e6⟩ := s1.cells
      have fz := s1.free
      go_wp2_with fail
      have s5 := SpF.store (n' := k) (fillTo cs k) s1
      have hb5 := hbr.set7 (Nat.le_refl _) (.int .i64 k) (.int .u64 (fillTo cs k 0)) (.int .u64 (fillTo cs k 1)) (.int .u64 (fillTo cs k 2)) (.int .u64 (fillTo cs k 3)) (.int .u64 (fillTo cs k 4)) (.int .u64 (fillTo cs k 5))
      refine bodyPost_ret (results_sp2 rfl rfl s5.load) rfl ?_
      refine ⟨?_, hb5⟩
      rw [show fillTo cs k = cell cs from funext HFA.out, ← HN.out]
      rfl

set_option maxRecDepth 100000 in
set_option maxHeartbeats 1600000 in
theorem newCells_bad (v : Value) (l : List Int) (w : World) (hr : Reads w v l) (ho : okB l = false) :
    Calls Tryd.prog 26 #[v] w fun e w' => e = .returned (.tuple #[spF l.length (fun _ => 0), .bool false]) ∧ Below w.heap.size w w' := by
  have hr0 := hr
  obtain ⟨a, cap, rfl, _, _, _⟩ := hr.open
  have HR := Lib.hid hr0
  unfold okB at ho
  clear hr hr0
  obtain ⟨n, hn⟩ : ∃ n, l.length = n := ⟨_, rfl⟩
  rw [hn] at ho HR ⊢
  clear hn
  have hb1 : Below w.heap.size w ((w.alloc (.cells #[.int .i64 0, .int .u64 0, .int .u64 0, .int .u64 0, .int .u64 0, .int .u64 0, .int .u64 0] 35)).alloc (.cells #[.int .i64 n, .int .u64 0, .int .u64 0, .int .u64 0, .int .u64 0, .int .u64 0, .int .u64 0] 35)) := ((Below.refl _ _).alloc (Nat.le_refl _) _).alloc (by simp) _
  have hr1 : SpF ((w.alloc (.cells #[.int .i64 0, .int .u64 0, .int .u64 0, .int .u64 0, .int .u64 0, .int .u64 0, .int .u64 0] 35)).alloc (.cells #[.int .i64 n, .int .u64 0, .int .u64 0, .int .u64 0, .int .u64 0, .int .u64 0, .int .u64 0] 35)) w.heap.size 0 (fun _ => 0) := alloc_old (heap_alloc_new _ _)
  have hr2 : SpF ((w.alloc (.cells #[.int .i64 0, .int .u64 0, .int .u64 0, .int .u64 0, .int .u64 0, .int .u64 0, .int .u64 0] 35)).alloc (.cells #[.int .i64 n, .int .u64 0, .int .u64 0, .int .u64 0, .int .u64 0, .int .u64 0, .int .u64 0] 35)) (w.heap.size + 1) n (fun _ => 0) := heap_alloc_at _ _ _ (by simp)
  by_cases h16 : 1 ≤ n ∧ n ≤ 6
  · have hw : withinB (n : Int) 1 6 = true := withinB_iff.2 ⟨by omega, by omega⟩
    have hco : codesB n l = false := by
      rw [decide_eq_true h16.1, decide_eq_true h16.2] at ho
      simpa using ho
    have HW := Lib.hid hw
    have HCO := Lib.hid hco
    have hn6 := h16.2
    clear hw hco ho
    go_enter Tryd.func26, Tryd.ntmps26
    go_wp2_with fail
    refine (within_any _ _ _ _).mono ?_
    rintro e w1 ⟨rfl, rfl⟩
    generalize hW1 : World.alloc (World.alloc w _) _ = W1 at hb1 hr1 hr2 ⊢
    clear hW1
    have q1 := hr2.n
    rw [HW.out]
    go_wp2_with fail
    refine (areCodes_any n _ l _ hn6 (HR.out.below hb1)).mono ?_
    rintro e w2 ⟨rfl, hb2⟩
    rw [HCO.out]
    have hr3 := hr1.below hb2
    have hr4 := hr2.below hb2
    have hb3 := hb1.trans (hb2.mono hb1.size)
    clear hr1 hr2 hb1 q1 hb2
    obtain ⟨d0, d1, d2, d3, d4, d5, d6⟩ := hr4.cells
    obtain ⟨e0, e1, e2, e3, e4, e5, e6⟩ := hr3.cells
    have fz := hr3.free
    go_wp2_with fail
    have s5 := SpF.store (n' := n) (fun _ => 0) hr3
    have hb5 := hb3.set7 (Nat.le_refl _) (.int .i64 n) (.int .u64 0) (.int .u64 0) (.int .u64 0) (.int .u64 0) (.int .u64 0) (.int .u64 0)
    refine bodyPost_ret (results_sp2 rfl rfl s5.load) rfl ?_
    exact ⟨rfl, hb5⟩
  · have hw : withinB (n : Int) 1 6 = false := by
      rcases hb : withinB (n : Int) 1 6 with _ | _
      · rfl
      · have := withinB_iff.1 hb; omega
    have HW := Lib.hid hw
    clear hw ho h16
    go_enter Tryd.func26, Tryd.ntmps26
    go_wp2_with fail
    refine (within_any _ _ _ _).mono ?_
    rintro e w1 ⟨rfl, rfl⟩
    generalize hW1 : World.alloc (World.alloc w _) _ = W1 at hb1 hr1 hr2 ⊢
    clear hW1
    rw [HW.out]
    obtain ⟨d0, d1, d2, d3, d4, d5, d6⟩ := hr2.cells
    obtain ⟨e0, e1, e2, e3, e4, e5, e6⟩ := hr1.cells
    have fz := hr1.free
    go_wp2_with fail
    have s5 := SpF.store (n' := n) (fun _ => 0) hr1
    have hb5 := hb1.set7 (Nat.le_refl _) (.int .i64 n) (.int .u64 0) (.int .u64 0) (.int .u64 0) (.int .u64 0) (.int .u64 0) (.int .u64 0)
    refine bodyPost_ret (results_sp2 rfl rfl s5.load) rfl ?_
    exact ⟨rfl, hb5⟩
end Go.Proofs.YtfhcbaamibipcaaDoor
