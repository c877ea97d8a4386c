/- ply: turned. -/
import Derived.Test.YtfhcbaamibipcaaDoorPApp
set_option linter.unusedVariables false
set_option linter.unusedSimpArgs false
namespace Go.Proofs.YtfhcbaamibipcaaDoor
open Go.RowKit

/-- the turned cells, as far as place q of row p -/
def tpart (cs : List Nat) (p q j : Nat) : Nat := if j < p then gather (fun i => (cell cs i).testBit j) cs.length else if j = p then gather (fun i => (cell cs i).testBit j) q else 0
theorem tpart_next (cs : List Nat) (p q j : Nat) : tpart cs p (q + 1) j = if j = p then tpart cs p q p ||| (if (cell cs q).testBit p = true then 2 ^ q else 0) else tpart cs p q j := by
  unfold tpart
  by_cases h : j = p
  · subst h; simp [gather]
  · simp [h]
theorem tpart_row (cs : List Nat) (p j : Nat) : tpart cs p cs.length j = tpart cs (p + 1) 0 j := by
  unfold tpart
  by_cases h : j < p
  · simp [h, show j < p + 1 by omega]
  · by_cases e : j = p
    · subst e; simp
    · have h1 : ¬ j < p + 1 := by omega
      by_cases e2 : j = p + 1
      · subst e2; simp [gather, show ¬ p + 1 < p by omega]
      · simp [h, e, h1, e2]
theorem tpart_all {cs : List Nat} (j : Nat) : tpart cs cs.length 0 j = cell (turnedN cs) j := by
  unfold tpart
  by_cases h : j < cs.length
  · rw [if_pos h, turned_cell h]
  · rw [if_neg h, cell_far (by rw [turned_len]; omega)]
    split <;> simp [gather]
theorem tpart_zero (cs : List Nat) (j : Nat) : tpart cs 0 0 j = 0 := by
  unfold tpart; simp [gather]
theorem tpart_lt {cs : List Nat} (hn : cs.length ≤ 6) {p q j : Nat} (hq : q ≤ 6) : tpart cs p q j < 64 := by
  unfold tpart
  split
  · exact Nat.lt_of_lt_of_le (gather_lt _ _) (Nat.pow_le_pow_right (n := 2) (by omega) hn)
  · split
    · exact Nat.lt_of_lt_of_le (gather_lt _ _) (Nat.pow_le_pow_right (n := 2) (by omega) hq)
    · decide

set_option maxRecDepth 100000 in
set_option maxHeartbeats 1600000 in
theorem turned_any (cs : List Nat) (w : World) (hc : Codes cs) :
    Calls Tryd.prog 41 #[spV cs] w fun e w' => e = .returned (spV (turnedN cs)) ∧ Below w.heap.size w w' := by
  have hn6 := hc.2.1
  have h64 := cell_64 hc
  have H64 := Lib.hid h64
  have HALL := Lib.hid (tpart_all (cs := cs))
  have HTL := Lib.hid (turned_len cs)
  clear hc h64
  go_enter Tryd.func41, Tryd.ntmps41
  go_wp2_with fail
  generalize hW : World.alloc (World.alloc (World.alloc w _) _) _ = W
  have hb1 : SpF W w.heap.size cs.length (cell cs) := by rw [← hW]; exact alloc_old (alloc_old (heap_alloc_new _ _))
  have hb2 : SpF W (w.heap.size + 1) 0 (fun _ => 0) := by rw [← hW]; exact alloc_old (heap_alloc_at _ _ _ (by simp))
  have hb3 : SpF W (w.heap.size + 2) cs.length (fun _ => 0) := by rw [← hW]; exact heap_alloc_at _ _ _ (by simp)
  have hbw : Below w.heap.size w W := by rw [← hW]; exact (((Below.refl _ _).alloc (Nat.le_refl _) _).alloc (by simp) _).alloc (by simp <;> omega) _
  clear hW
  go_loopw [11] (fun i wr => ∃ p : Nat, p ≤ cs.length ∧ i = .int .i64 p ∧ SpF wr w.heap.size cs.length (cell cs) ∧ SpF wr (w.heap.size + 1) 0 (fun _ => 0) ∧ SpF wr (w.heap.size + 2) cs.length (tpart cs p 0) ∧ Below w.heap.size w wr) (fun i _ => cs.length - (intOf i).toNat)
  case atStart => exact ⟨0, by omega, rfl, hb1, hb2, hb3.same (fun j => (tpart_zero cs j).symm), hbw⟩
  case round =>
    obtain ⟨p, hp, rfl, s1, s2, s3, hbr⟩ := hrel
    by_cases hlt : p < cs.length
    · have k0 : (0 : Int) ≤ (p : Int) := by omega
      have k1 : (p : Int) < (cs.length : Int) := by omega
      have k6 : (p : Int) < 6 := by omega
      have q0 := s1.n
      go_wp2_with fail
      go_loopw [16] (fun i wr => ∃ q : Nat, q ≤ cs.length ∧ i = .int .i64 q ∧ SpF wr w.heap.size cs.length (cell cs) ∧ SpF wr (w.heap.size + 1) 0 (fun _ => 0) ∧ SpF wr (w.heap.size + 2) cs.length (tpart cs p q) ∧ Below w.heap.size w wr) (fun i _ => cs.length - (intOf i).toNat)
      case atStart => exact ⟨0, by omega, rfl, s1, s2, s3, hbr⟩
      case round =>
        obtain ⟨q, hq, rfl, r1, r2, r3, hbq⟩ := hrel
        clear q0
        by_cases hlt2 : q < cs.length
        · have j0 : (0 : Int) ≤ (q : Int) := by omega
          have j1 : (q : Int) < (cs.length : Int) := by omega
          have j6 : (q : Int) < 6 := by omega
          have c1 := r1.cell (p := q) (by omega)
          have c3 := r3.cell (p := p) (by omega)
          have f3 := r3.free (1 + p)
          have hcq := H64.out q
          rcases hbit : (cell cs q).testBit p with _ | _
          · have hrow : ∀ j, tpart cs p q j = tpart cs p (q + 1) j := fun j => by
              rw [tpart_next, hbit]
              by_cases e : j = p
              · subst e; simp
              · simp [e]
            have R1 := Lib.hid r1
            have R2 := Lib.hid r2
            have R3 := Lib.hid (r3.same hrow)
            have HB := Lib.hid hbq
            have HBIT := Lib.hid hbit
            clear r1 r2 r3 hbq hrow hbit
            go_wp2_with fail
            refine (has_any (cell cs q) p _ hcq (by omega)).mono ?_
            rintro e w' ⟨rfl, rfl⟩
            rw [HBIT.out]
            go_wp2_with fail
            go_roundw
            case rel => exact ⟨q + 1, by omega, by go_num, R1.out, R2.out, R3.out, HB.out⟩
            case measure => simp [intOf]; omega
          · have htl := tpart_lt (cs := cs) hn6 (p := p) (q := q) (j := p) (by omega)
            have hsh := shl_num q (by omega)
            have hor : bits .or .u64 (tpart cs p q p : Int) ((2 : Int) ^ q) = ((tpart cs p q p ||| 2 ^ q : Nat) : Int) := by
              have := u64_or (tpart cs p q p) (2 ^ q) (by omega) (by have := pow_lt64 (p := q) (by omega); omega)
              rwa [show (((2 ^ q : Nat) : Int)) = (2 : Int) ^ q by push_cast; rfl] at this
            have hset := fun (W : World) (h : SpF W (w.heap.size + 2) cs.length (tpart cs p q)) => SpF.set (c' := tpart cs p (q + 1)) h (p := p) (v := tpart cs p q p ||| 2 ^ q) (by omega) (fun j _ => by rw [tpart_next, hbit]; simp)
            have HSET := Lib.hid hset
            have R1 := Lib.hid r1
            have R2 := Lib.hid r2
            have R3 := Lib.hid r3
            have HB := Lib.hid hbq
            have HBIT := Lib.hid hbit
            clear r1 r2 r3 hbq hset hbit
            go_wp2_with fail
            refine (has_any (cell cs q) p _ hcq (by omega)).mono ?_
            rintro e w' ⟨rfl, rfl⟩
            rw [HBIT.out]
            go_wp2_with fail
            refine (wpIn_wide (n := 20)).1 ?_
            refine region_then 9 rfl rfl rfl (by kernel_rfl) (by kernel_rfl) (by kernel_rfl) (by kernel_rfl) (by kernel_rfl) (by kernel_rfl) ?_
            dsimp only [List.dropLast]
            repeat (gi_big_quiet_step (fail))
            refine wpQuietIn_nil ?_
            intro _ hw'
            obtain ⟨nq, hw''⟩ := hw'
            subst hw''
            go_simp
            go_at_K
            go_wp2_with fail
            go_roundw
            case rel =>
              refine ⟨q + 1, by omega, by go_num, (R1.out.drewN _).other (by omega), (R2.out.drewN _).other (by omega), HSET.out _ (R3.out.drewN _), ?_⟩
              exact (below_to HB.out HB.out.size (below_drewN _ _)).setCell (p := ⟨w.heap.size + 1 + 1, 1 + p, none⟩) (by simp <;> omega) _
            case measure => simp [intOf]; omega
        · have hqn : q = cs.length := by omega
          have hrow : ∀ j, tpart cs p q j = tpart cs (p + 1) 0 j := fun j => by rw [hqn]; exact tpart_row cs p j
          have R1 := Lib.hid r1
          have R2 := Lib.hid r2
          have R3 := Lib.hid (r3.same hrow)
          have HB := Lib.hid hbq
          clear r1 r2 r3 hbq hrow
          go_wp2_with fail
          go_roundw
          case rel => exact ⟨p + 1, by omega, by go_num, R1.out, R2.out, R3.out, HB.out⟩
          case measure => simp [intOf]; omega
    · have hpn : p = cs.length := by omega
      have s4 : SpF wr (w.heap.size + 2) cs.length (cell (turnedN cs)) := s3.same (fun j => by rw [hpn]; exact HALL.out j)
      obtain ⟨d0, d1, d2, d3, d4, d5, d6⟩ := s4.cells
      obtain ⟨e0, e1, e2, e3, e4, e5, e6⟩ := s2.cells
      have fz := s2.free
      clear s1 s3
      go_wp2_with fail
      have s5 := SpF.store (n' := cs.length) (cell (turnedN cs)) s2
      have hb5 := hbr.set7 (b := w.heap.size + 1) (by omega) (.int .i64 cs.length) (.int .u64 (cell (turnedN cs) 0)) (.int .u64 (cell (turnedN cs) 1)) (.int .u64 (cell (turnedN cs) 2)) (.int .u64 (cell (turnedN cs) 3)) (.int .u64 (cell (turnedN cs) 4)) (.int .u64 (cell (turnedN cs) 5))
      refine bodyPost_ret (results_sp rfl rfl s5.load) rfl ?_
      refine ⟨?_, hb5⟩
      rw [← HTL.out]
end Go.Proofs.YtfhcbaamibipcaaDoor
