import Derived.Test.YtmagkcioplcidaeDoorMergeA
import Derived.Laws.EntriesVeiled
import Derived.Laws.StructEq
import Derived.Maps.OwnIn
/- ply: turned. -/
set_option linter.unusedVariables false
set_option linter.unusedSimpArgs false
namespace Go.Proofs.YtmagkcioplcidaeDoor
open Go.RowKit

/-- the turned cells, as far as place q of row p -/
def tpart (cs : List Nat) (p q j : Nat) : Nat := if j < p then gather (fun i => (cell cs i).testBit j) cs.length else if j = p then gather (fun i => (cell cs i).testBit j) q else 0
theorem tpart_next (cs : List Nat) (p q j : Nat) : tpart cs p (q + 1) j = if j = p then tpart cs p q p ||| (if (cell cs q).testBit p = true then 2 ^ q else 0) else tpart cs p q j := by
  unfold tpart
  by_cases h : j = p
  · subst h; simp [gather]
  · simp [h]
theorem tpart_row (cs : List Nat) (p j : Nat) : tpart cs p cs.length j = tpart cs (p + 1) 0 j := by
  unfold tpart
  by_cases h : j < p
  · simp [h, show j < p + 1 by omega]
  · by_cases e : j = p
    · subst e; simp
    · have h1 : ¬ j < p + 1 := by omega
      by_cases e2 : j = p + 1
      · subst e2; simp [gather, show ¬ p + 1 < p by omega]
      · simp [h, e, h1, e2]
theorem tpart_all {cs : List Nat} (j : Nat) : tpart cs cs.length 0 j = cell (turnedN cs) j := by
  unfold tpart
  by_cases h : j < cs.length
  · rw [if_pos h, turned_cell h]
  · rw [if_neg h, cell_far (by rw [turned_len]; omega)]
    split <;> simp [gather]
theorem tpart_zero (cs : List Nat) (j : Nat) : tpart cs 0 0 j = 0 := by
  unfold tpart; simp [gather]
theorem tpart_lt {cs : List Nat} (hn : cs.length ≤ 6) {p q j : Nat} (hq : q ≤ 6) : tpart cs p q j < 64 := by
  unfold tpart
  split
  · exact Nat.lt_of_lt_of_le (gather_lt _ _) (Nat.pow_le_pow_right (n := 2) (by omega) hn)
  · split
    · exact Nat.lt_of_lt_of_le (gather_lt _ _) (Nat.pow_le_pow_right (n := 2) (by omega) hq)
    · decide

set_option maxRecDepth 100000 in
set_option maxHeartbeats 1600000 in
theorem turned_any (cs : List Nat) (w : World) (hc : Codes cs) :
    Calls Tryd.prog 21 #[spV cs] w fun e w' => e = .returned (spV (turnedN cs)) ∧ Below w.heap.size w w' := by
  have hn6 := hc.2.1
  have h64 := cell_64 hc
  have H64 := Lib.hid h64
  have HALL := Lib.hid (tpart_all (cs := cs))
  have HTL := Lib.hid (turned_len cs)
  clear hc h64
  go_enter Tryd.func21, Tryd.ntmps21
  go_wp2_with fail
  generalize hW : World.alloc (World.alloc (World.alloc w _) _) _ = W
  have hb1 : SpF W w.heap.size cs.length (cell cs) := by rw [← hW]; exact alloc_old (alloc_old (heap_alloc_new _ _))
  have hb2 : SpF W (w.heap.size + 1) 0 (fun _ => 0) := by rw [← hW]; exact alloc_old (heap_alloc_at _ _ _ (by simp))
  have hb3 : SpF W (w.heap.size + 2) cs.length (fun _ => 0) := by rw [← hW]; exact heap_alloc_at _ _ _ (by simp)
  have hbw : Below w.heap.size w W := by rw [← hW]; exact (((Below.refl _ _).alloc (Nat.le_refl _) _).alloc (by simp) _).alloc (by simp <;> omega) _
  clear hW
  go_loopw [11] (fun i wr => ∃ p : Nat, p ≤ cs.length ∧ i = .int .i64 p ∧ SpF wr w.heap.size cs.length (cell cs) ∧ SpF wr (w.heap.size + 1) 0 (fun _ => 0) ∧ SpF wr (w.heap.size + 2) cs.length (tpart cs p 0) ∧ Below w.heap.size w wr) (fun i _ => cs.length - (intOf i).toNat)
  case atStart => exact ⟨0, by omega, rfl, hb1, hb2, hb3.same (fun j => (tpart_zero cs j).symm), hbw⟩
  case round =>
    obtain ⟨p, hp, rfl, s1, s2, s3, hbr⟩ := hrel
    by_cases hlt : p < cs.length
    · have k0 : (0 : Int) ≤ (p : Int) := by omega
      have k1 : (p : Int) < (cs.length : Int) := by omega
      have k6 : (p : Int) < 6 := by omega
      have q0 := s1.n
      go_wp2_with fail
      go_loopw [16] (fun i wr => ∃ q : Nat, q ≤ cs.length ∧ i = .int .i64 q ∧ SpF wr w.heap.size cs.length (cell cs) ∧ SpF wr (w.heap.size + 1) 0 (fun _ => 0) ∧ SpF wr (w.heap.size + 2) cs.length (tpart cs p q) ∧ Below w.heap.size w wr) (fun i _ => cs.length - (intOf i).toNat)
      case atStart => exact ⟨0, by omega, rfl, s1, s2, s3, hbr⟩
      case round =>
        obtain ⟨q, hq, rfl, r1, r2, r3, hbq⟩ := hrel
        clear q0
        by_cases hlt2 : q < cs.length
        · have j0 : (0 : Int) ≤ (q : Int) := by omega
          have j1 : (q : Int) < (cs.length : Int) := by omega
          have j6 : (q : Int) < 6 := by omega
          have c1 := r1.cell (p := q) (by omega)
          have c3 := r3.cell (p := p) (by omega)
          have f3 := r3.free (1 + p)
          have hcq := H64.out q
          rcases hbit : (cell cs q).testBit p with _ | _
          · have hrow : ∀ j, tpart cs p q j = tpart cs p (q + 1) j := fun j => by
              rw [tpart_next, hbit]
              by_cases e : j = p
              · subst e; simp
              · simp [e]
            have R1 := Lib.hid r1
            have R2 := Lib.hid r2
            have R3 := Lib.hid (r3.same hrow)
            have HB := Lib.hid hbq
            have HBIT := Lib.hid hbit
            clear r1 r2 r3 hbq hrow hbit
            go_wp2_with fail
            refine (has_any (cell cs q) p _ hcq (by omega)).mono ?_
            rintro e w' ⟨rfl, rfl⟩
            rw [HBIT.out]
            go_wp2_with fail
            go_roundw
            case rel => exact ⟨q + 1, by omega, by go_num, R1.out, R2.out, R3.out, HB.out⟩
            case measure => simp [intOf]; omega
          · have htl := tpart_lt (cs := cs) hn6 (p := p) (q := q) (j := p) (by omega)
            have hsh := shl_num q (by omega)
            have hor : bits .or .u64 (tpart cs p q p : Int) ((2 : Int) ^ q) = ((tpart cs p q p ||| 2 ^ q : Nat) : Int) := by
              have := u64_or (tpart cs p q p) (2 ^ q) (by omega) (by have := pow_lt64 (p := q) (by omega); omega)
              rwa [show (((2 ^ q : Nat) : Int)) = (2 : Int) ^ q by push_cast; rfl] at this
            have hset := fun (W : World) (h : SpF W (w.heap.size + 2) cs.length (tpart cs p q)) => SpF.set (c' := tpart cs p (q + 1)) h (p := p) (v := tpart cs p q p ||| 2 ^ q) (by omega) (fun j _ => by rw [tpart_next, hbit]; simp)
            have HSET := Lib.hid hset
            have R1 := Lib.hid r1
            have R2 := Lib.hid r2
            have R3 := Lib.hid r3
            have HB := Lib.hid hbq
            have HBIT := Lib.hid hbit
            clear r1 r2 r3 hbq hset hbit
            go_wp2_with fail
            refine (has_any (cell cs q) p _ hcq (by omega)).mono ?_
            rintro e w' ⟨rfl, rfl⟩
            rw [HBIT.out]
            go_wp2_with fail
            refine (wpIn_wide (n := 20)).1 ?_
            refine region_then 9 rfl rfl rfl (by kernel_rfl) (by kernel_rfl) (by kernel_rfl) (by kernel_rfl) (by kernel_rfl) (by kernel_rfl) ?_
            dsimp only [List.dropLast]
            repeat (gi_big_quiet_step (fail))
            refine wpQuietIn_nil ?_
            intro _ hw'
            obtain ⟨nq, hw''⟩ := hw'
            subst hw''
            go_simp
            go_at_K
            go_wp2_with fail
            go_roundw
            case rel =>
              refine ⟨q + 1, by omega, by go_num, (R1.out.drewN _).other (by omega), (R2.out.drewN _).other (by omega), HSET.out _ (R3.out.drewN _), ?_⟩
              exact (below_to HB.out HB.out.size (below_drewN _ _)).setCell (p := ⟨w.heap.size + 1 + 1, 1 + p, none⟩) (by simp <;> omega) _
            case measure => simp [intOf]; omega
        · have hqn : q = cs.length := by omega
          have hrow : ∀ j, tpart cs p q j = tpart cs (p + 1) 0 j := fun j => by rw [hqn]; exact tpart_row cs p j
          have R1 := Lib.hid r1
          have R2 := Lib.hid r2
          have R3 := Lib.hid (r3.same hrow)
          have HB := Lib.hid hbq
          clear r1 r2 r3 hbq hrow
          go_wp2_with fail
          go_roundw
          case rel => exact ⟨p + 1, by omega, by go_num, R1.out, R2.out, R3.out, HB.out⟩
          case measure => simp [intOf]; omega
    · have hpn : p = cs.length := by omega
      have s4 : SpF wr (w.heap.size + 2) cs.length (cell (turnedN cs)) := s3.same (fun j => by rw [hpn]; exact HALL.out j)
      obtain ⟨d0, d1, d2, d3, d4, d5, d6⟩ := s4.cells
      obtain ⟨e0, e1, e2, e3, e4, e5, e6⟩ := s2.cells
      have fz := s2.free
      clear s1 s3
      go_wp2_with fail
      have s5 := SpF.store (n' := cs.length) (cell (turnedN cs)) s2
      have hb5 := hbr.set7 (b := w.heap.size + 1) (by omega) (.int .i64 cs.length) (.int .u64 (cell (turnedN cs) 0)) (.int .u64 (cell (turnedN cs) 1)) (.int .u64 (cell (turnedN cs) 2)) (.int .u64 (cell (turnedN cs) 3)) (.int .u64 (cell (turnedN cs) 4)) (.int .u64 (cell (turnedN cs) 5))
      refine bodyPost_ret (results_sp rfl rfl s5.load) rfl ?_
      refine ⟨?_, hb5⟩
      rw [← HTL.out]
end Go.Proofs.YtmagkcioplcidaeDoor

/- Chains counted from below and from above: plain sums. -/
set_option linter.unusedVariables false
set_option linter.unusedSimpArgs false
namespace Go.Proofs.YtmagkcioplcidaeDoor

def sumTo (h : Nat → Int) : Nat → Int
  | 0 => 0
  | n + 1 => sumTo h n + h n
theorem sumTo_same {h k : Nat → Int} : ∀ n, (∀ i, i < n → h i = k i) → sumTo h n = sumTo k n
  | 0, _ => rfl
  | n + 1, e => by unfold sumTo; rw [sumTo_same n (fun i hi => e i (by omega)), e n (by omega)]
theorem sumTo_add (h k : Nat → Int) : ∀ n, sumTo (fun i => h i + k i) n = sumTo h n + sumTo k n
  | 0 => rfl
  | n + 1 => by unfold sumTo; rw [sumTo_add h k n]; omega
theorem sumTo_mul (c : Int) (h : Nat → Int) : ∀ n, sumTo (fun i => c * h i) n = c * sumTo h n
  | 0 => by simp [sumTo]
  | n + 1 => by unfold sumTo; rw [sumTo_mul c h n, Int.mul_add]
theorem sumTo_zero : ∀ n, sumTo (fun _ => 0) n = 0
  | 0 => rfl
  | n + 1 => by unfold sumTo; rw [sumTo_zero n]; rfl
theorem sumTo_swap (h : Nat → Nat → Int) (m : Nat) : ∀ n, sumTo (fun i => sumTo (fun j => h i j) m) n = sumTo (fun j => sumTo (fun i => h i j) n) m
  | 0 => by simp only [sumTo]; rw [sumTo_zero]
  | n + 1 => by
    show sumTo (fun i => sumTo (fun j => h i j) m) n + sumTo (fun j => h n j) m = _
    rw [sumTo_swap h m n, ← sumTo_add]
    rfl
/-- the sum over all points is the same from below and from above -/
theorem chains_dual (n : Nat) (A : Nat → Nat → Bool) (f g : Nat → Int) (hf : ∀ p, p < n → f p + sumTo (fun q => if A q p = true then f q else 0) n = 1)
    (hg : ∀ p, p < n → g p + sumTo (fun q => if A p q = true then g q else 0) n = 1) : sumTo f n = sumTo g n := by
  have e1 : sumTo g n = sumTo (fun p => g p * f p) n + sumTo (fun p => sumTo (fun q => if A q p = true then g p * f q else 0) n) n := by
    rw [← sumTo_add]
    refine sumTo_same n fun p hp => ?_
    have h := hf p hp
    have h2 : sumTo (fun q => if A q p = true then g p * f q else 0) n = g p * sumTo (fun q => if A q p = true then f q else 0) n := by
      rw [← sumTo_mul]
      refine sumTo_same n fun q _ => ?_
      by_cases ha : A q p = true
      · rw [if_pos ha, if_pos ha]
      · rw [if_neg ha, if_neg ha, Int.mul_zero]
    rw [h2, ← Int.mul_add, h, Int.mul_one]
  have e2 : sumTo f n = sumTo (fun q => f q * g q) n + sumTo (fun q => sumTo (fun p => if A q p = true then f q * g p else 0) n) n := by
    rw [← sumTo_add]
    refine sumTo_same n fun q hq => ?_
    have h := hg q hq
    have h2 : sumTo (fun p => if A q p = true then f q * g p else 0) n = f q * sumTo (fun p => if A q p = true then g p else 0) n := by
      rw [← sumTo_mul]
      refine sumTo_same n fun p _ => ?_
      by_cases ha : A q p = true
      · rw [if_pos ha, if_pos ha]
      · rw [if_neg ha, if_neg ha, Int.mul_zero]
    rw [h2, ← Int.mul_add, h, Int.mul_one]
  rw [e1, e2, sumTo_swap (fun p q => if A q p = true then g p * f q else 0) n n]
  have e3 : sumTo (fun p => g p * f p) n = sumTo (fun q => f q * g q) n := sumTo_same n fun p _ => Int.mul_comm _ _
  have e4 : sumTo (fun q => sumTo (fun p => if A q p = true then g p * f q else 0) n) n = sumTo (fun q => sumTo (fun p => if A q p = true then f q * g p else 0) n) n := sumTo_same n fun q _ => sumTo_same n fun p _ => by rw [Int.mul_comm]
  rw [e3, e4]
end Go.Proofs.YtmagkcioplcidaeDoor

/- Chains of a plain space: counted downwards and upwards. -/
set_option linter.unusedVariables false
set_option linter.unusedSimpArgs false
namespace Go.Proofs.YtmagkcioplcidaeDoor

def plainB (cs : List Nat) : Bool := (List.range cs.length).all fun i => (List.range i).all fun k => decide (cell cs k ≠ cell cs i)
theorem plain_iff {cs : List Nat} : plainB cs = true ↔ ∀ i k, i < cs.length → k < i → cell cs k ≠ cell cs i := by
  unfold plainB
  simp only [List.all_eq_true, List.mem_range, decide_eq_true_eq]
  exact ⟨fun h i k hi hk => h i hi k hk, fun h i hi k hk => h i k hi hk⟩
theorem plain_ne {cs : List Nat} (hp : plainB cs = true) {i k : Nat} (hi : i < cs.length) (hk : k < cs.length) (hne : i ≠ k) : cell cs i ≠ cell cs k := by
  by_cases h : i < k
  · exact plain_iff.1 hp k i hk h
  · exact (plain_iff.1 hp i k hi (by omega)).symm
/-- q is below p -/
def ltP (cs : List Nat) (q p : Nat) : Bool := decide (q ≠ p) && (cell cs p).testBit q
theorem lt_less {cs : List Nat} (hs : spaceB cs = true) (hp : plainB cs = true) {q p : Nat} (hq : q < cs.length) (hpn : p < cs.length) (h : ltP cs q p = true) : cell cs q < cell cs p := by
  unfold ltP at h
  rw [Bool.and_eq_true, decide_eq_true_eq] at h
  have h1 := sub_and ((space_iff.1 hs p hpn).2 q hq h.2)
  have h2 := plain_ne hp hq hpn h.1
  have h3 : cell cs q &&& cell cs p ≤ cell cs p := Nat.and_le_right
  omega

def dnF (cs : List Nat) : Nat → Nat → Int
  | 0, _ => 0
  | k + 1, p => 1 - sumTo (fun q => if ltP cs q p = true then dnF cs k q else 0) cs.length
def upF (cs : List Nat) : Nat → Nat → Int
  | 0, _ => 0
  | k + 1, p => 1 - sumTo (fun q => if ltP cs p q = true then upF cs k q else 0) cs.length
theorem dn_stable {cs : List Nat} (hs : spaceB cs = true) (hp : plainB cs = true) : ∀ k p, p < cs.length → cell cs p < k → dnF cs (k + 1) p = dnF cs k p
  | 0, p, _, h => by omega
  | k + 1, p, hpn, h => by
    show 1 - sumTo (fun q => if ltP cs q p = true then dnF cs (k + 1) q else 0) cs.length = 1 - sumTo (fun q => if ltP cs q p = true then dnF cs k q else 0) cs.length
    congr 1
    refine sumTo_same _ fun q hq => ?_
    by_cases hl : ltP cs q p = true
    · have := lt_less hs hp hq hpn hl
      rw [if_pos hl, if_pos hl, dn_stable hs hp k q hq (by omega)]
    · rw [if_neg hl, if_neg hl]
theorem up_stable {cs : List Nat} (hs : spaceB cs = true) (hp : plainB cs = true) {B : Nat} (hB : ∀ p, cell cs p < B) : ∀ k p, p < cs.length → B - cell cs p < k → upF cs (k + 1) p = upF cs k p
  | 0, p, _, h => by omega
  | k + 1, p, hpn, h => by
    show 1 - sumTo (fun q => if ltP cs p q = true then upF cs (k + 1) q else 0) cs.length = 1 - sumTo (fun q => if ltP cs p q = true then upF cs k q else 0) cs.length
    congr 1
    refine sumTo_same _ fun q hq => ?_
    by_cases hl : ltP cs p q = true
    · have h1 := lt_less hs hp hpn hq hl
      have h2 := hB q
      rw [if_pos hl, if_pos hl, up_stable hs hp hB k q hq (by omega)]
    · rw [if_neg hl, if_neg hl]
theorem dn_more {cs : List Nat} (hs : spaceB cs = true) (hp : plainB cs = true) {p k : Nat} (hpn : p < cs.length) (h : cell cs p < k) : ∀ d, dnF cs (k + d) p = dnF cs k p
  | 0 => rfl
  | d + 1 => by rw [show k + (d + 1) = (k + d) + 1 by omega, dn_stable hs hp _ p hpn (by omega), dn_more hs hp hpn h d]
/-- the numbers from below and from above have the same sum -/
theorem chains_same {cs : List Nat} (hs : spaceB cs = true) (hp : plainB cs = true) (hc : Codes cs) {k m : Nat} (hk : 2 ^ cs.length ≤ k) (hm : 2 ^ cs.length < m) : sumTo (dnF cs k) cs.length = sumTo (upF cs m) cs.length := by
  refine chains_dual cs.length (fun q p => ltP cs q p) _ _ (fun p hpn => ?_) (fun p hpn => ?_)
  · have h1 := hc.2.2 p
    rw [← dn_stable hs hp k p hpn (by omega)]
    show (1 - sumTo (fun q => if ltP cs q p = true then dnF cs k q else 0) cs.length) + _ = 1
    omega
  · rw [← up_stable (B := 2 ^ cs.length) hs hp hc.2.2 m p hpn (Nat.lt_of_le_of_lt (Nat.sub_le _ _) hm)]
    show (1 - sumTo (fun q => if ltP cs p q = true then upF cs m q else 0) cs.length) + _ = 1
    omega
/-- in the turned space below is above -/
theorem lt_turned {cs : List Nat} {q p : Nat} (hq : q < cs.length) (hp : p < cs.length) : ltP (turnedN cs) q p = ltP cs p q := by
  unfold ltP
  rw [turned_bit hp hq]
  by_cases e : q = p
  · subst e; rfl
  · have e2 : ¬ p = q := fun h => e h.symm
    simp [e, e2]
theorem dn_turned {cs : List Nat} : ∀ k p, p < cs.length → dnF (turnedN cs) k p = upF cs k p
  | 0, _, _ => rfl
  | k + 1, p, hp => by
    show 1 - sumTo (fun q => if ltP (turnedN cs) q p = true then dnF (turnedN cs) k q else 0) (turnedN cs).length = 1 - sumTo (fun q => if ltP cs p q = true then upF cs k q else 0) cs.length
    rw [turned_len]
    congr 1
    refine sumTo_same _ fun q hq => ?_
    rw [lt_turned hq hp, dn_turned k q hq]
end Go.Proofs.YtmagkcioplcidaeDoor

/- ply: list, Turned, isPlain. -/
set_option linter.unusedVariables false
set_option linter.unusedSimpArgs false
namespace Go.Proofs.YtmagkcioplcidaeDoor
open Go.RowKit

theorem ofNats_take {cs : List Nat} {k : Nat} (hk : k < cs.length) : ofNats (cs.take (k + 1)) = ofNats (cs.take k) ++ [(cell cs k : Int)] := by
  unfold ofNats cell
  rw [List.take_succ_eq_append_getElem hk, List.map_append, List.getD_eq_getElem?_getD, List.getElem?_eq_getElem hk]
  rfl
set_option maxRecDepth 100000 in
set_option maxHeartbeats 1600000 in
theorem list_any (cs : List Nat) (w : World) (hc : Codes cs) :
    Calls Tryd.prog 22 #[spV cs] w fun e w' => ∃ v', e = .returned v' ∧ Col w w' v' (ofNats cs) := by
  have hn6 := hc.2.1
  have hn1 := hc.1
  have h64 := cell_64 hc
  have H64 := Lib.hid h64
  have HTK := Lib.hid (fun k (hk : k < cs.length) => ofNats_take hk)
  have HFULL : Hid (cs.take cs.length = cs) := Lib.hid List.take_length
  clear hc h64
  have hz : ¬ ((cs.length : Nat) : Int) < 0 := by omega
  have hz6 : ((cs.length : Nat) : Int) ≤ 6 := by omega
  have hz0 : (0 : Int) ≤ ((cs.length : Nat) : Int) := by omega
  go_enter Tryd.func22, Tryd.ntmps22
  go_wp2_with fail
  generalize hW : World.alloc w _ = W
  have hs1 : SpF W w.heap.size cs.length (cell cs) := by rw [← hW]; exact heap_alloc_new _ _
  have hbw : Below w.heap.size w W := by rw [← hW]; exact (Below.refl _ _).alloc (Nat.le_refl _) _
  clear hW
  go_loopw [3, 11] (fun v i wr => ∃ k : Nat, k ≤ cs.length ∧ i = .int .i64 k ∧ Col w wr v (ofNats (cs.take k)) ∧ SpF wr w.heap.size cs.length (cell cs)) (fun _ i _ => cs.length - (intOf i).toNat)
  case atStart => exact ⟨0, by omega, rfl, ⟨World.ownsRow_nil _ _ _ _, hbw⟩, hs1⟩
  case round =>
    obtain ⟨k, hk, rfl, hcol, hsr⟩ := hrel
    have HCOL := Lib.hid hcol
    have HSR := Lib.hid hsr
    by_cases hlt : k < cs.length
    · have q1 := hsr.cell (p := k) (by omega)
      have k0 : (0 : Int) ≤ (k : Int) := by omega
      have k1 : (k : Int) < (cs.length : Int) := by omega
      have hwi := wrapI (cell cs k) (by have := H64.out k; omega)
      have HST := Lib.hid (HTK.out k hlt)
      have HL : Hid ((ofNats (cs.take k)).length ≤ 1000000000) := Lib.hid (by rw [ofNats_len, List.length_take]; omega)
      clear hcol hsr
      go_wp2_with (at_builtin; refine append_intK rfl _ _ rfl HCOL.out rfl _ rfl HL.out ?_; intro v' w' hcol' hne hkeep)
      go_roundw
      case rel => exact ⟨k + 1, by omega, by go_num, by rw [HST.out]; exact hcol', hkeep.sp HSR.out⟩
      case measure => simp [intOf]; omega
    · have hkn : k = cs.length := by omega
      have HK : Hid (cs.take k = cs) := Lib.hid (by rw [hkn]; exact HFULL.out)
      clear hcol hsr
      go_wp2_with fail
      go_ret
      exact ⟨_, rfl, by have := HCOL.out; rwa [HK.out] at this⟩

set_option maxRecDepth 100000 in
set_option maxHeartbeats 800000 in
theorem Turned_yes (v : Value) (cs : List Nat) (w : World) (hr : Reads w v (ofNats cs)) (hc : Codes cs) (hsp : spaceB cs = true) (hT : Tab w) :
    Calls Tryd.prog 7 #[v] w fun e w' => ∃ v', e = .returned (.tuple #[v', .int .i64 0]) ∧ Col w w' v' (ofNats (turnedN cs)) := by
  have hr0 := hr
  obtain ⟨a, cap, rfl, _, _, _⟩ := hr.open
  clear hr
  go_enter Tryd.func7, Tryd.ntmps7
  go_wp2_with fail
  refine (newSpace_yes _ cs _ hr0 hc hsp hT).mono ?_
  rintro e w1 ⟨rfl, hb1⟩
  obtain ⟨hs1, hb2⟩ := lay_sp hb1 cs.length (cell cs)
  go_wp2_with fail
  generalize hW : World.alloc w1 _ = W at *
  clear hW
  obtain ⟨d0, d1, d2, d3, d4, d5, d6⟩ := hs1.cells
  clear hs1
  go_wp2_with fail
  refine (turned_any cs _ hc).mono ?_
  rintro e w2 ⟨rfl, hb3⟩
  have hb4 := below_to hb2 hb2.size hb3
  clear d0 d1 d2 d3 d4 d5 d6
  go_wp2_with fail
  refine (list_any (turnedN cs) _ (turned_codes hc)).mono ?_
  rintro e w3 ⟨v', rfl, hcol⟩
  obtain ⟨va, vl, vc, rfl⟩ : ∃ a l c, v' = Value.slice a l c := by obtain ⟨a, cap, h1, _⟩ := hcol.reads; exact ⟨a, _, cap, h1⟩
  go_wp2_with fail
  go_ret2
  exact ⟨_, rfl, hcol.lower hb4⟩
set_option maxRecDepth 100000 in
theorem Turned_no (v : Value) (l : List Int) (w : World) (hr : Reads w v l) (h : spL l = false) (hT : Tab w) :
    Calls Tryd.prog 7 #[v] w fun e w' => e = .returned (.tuple #[.slice none 0 0, .int .i64 2]) ∧ Below w.heap.size w w' := by
  have hr0 := hr
  obtain ⟨a, cap, rfl, _, _, _⟩ := hr.open
  clear hr
  go_enter Tryd.func7, Tryd.ntmps7
  go_wp2_with fail
  refine (newSpace_no _ l _ hr0 h hT).mono ?_
  rintro e w1 ⟨n, c, rfl, hb1⟩
  obtain ⟨hs1, hb2⟩ := lay_sp hb1 n c
  go_wp2_with fail
  go_ret2
  exact ⟨rfl, hb2⟩

/-! ### is a set among the cells so far -/
def amongB (c : Nat → Nat) (m s : Nat) : Bool := (List.range m).any fun k => decide (c k = s)
theorem among_iff {c : Nat → Nat} {m s : Nat} : amongB c m s = true ↔ ∃ k, k < m ∧ c k = s := by
  unfold amongB
  rw [List.any_eq_true]
  simp only [List.mem_range, decide_eq_true_eq]
set_option maxRecDepth 100000 in
set_option maxHeartbeats 800000 in
theorem indexSet_any (c : Nat → Nat) (m s B cap n : Nat) (w : World) (hm : m ≤ 6) (hs : SpF w B n c) :
    Calls Tryd.prog 53 #[.slice (some ⟨B, 1, none⟩) m cap, .int .u64 s] w fun e w' => ∃ i : Int, e = .returned (.int .i64 i) ∧ decide (0 ≤ i) = amongB c m s ∧ w = w' := by
  have HS := Lib.hid hs
  clear hs
  go_enter Tryd.func53, Tryd.ntmps53
  go_wp2_with fail
  go_loop [8] (fun i => ∃ k : Nat, k ≤ m ∧ i = .int .i64 k ∧ ∀ j, j < k → c j ≠ s) (fun i => m - (intOf i).toNat)
  case atStart => exact ⟨0, by omega, rfl, fun j hj => absurd hj (by omega)⟩
  case round =>
    obtain ⟨k, hk, rfl, hd⟩ := hrel
    have HD := Lib.hid hd
    clear hd
    by_cases hlt : k < m
    · have q1 := HS.out.cell (p := k) (by omega)
      have k0 : (0 : Int) ≤ (k : Int) := by omega
      have k1 : (k : Int) < (m : Int) := by omega
      by_cases he : c k = s
      · have he2 : ((s : Int) == (c k : Int)) = true := by simp [he]
        have HE := Lib.hid he
        clear he
        go_wp2_with fail
        go_ret
        refine ⟨_, rfl, ?_, rfl⟩
        rw [decide_eq_true (by omega)]
        exact (among_iff.2 ⟨k, hlt, HE.out⟩).symm
      · have he2 : ((s : Int) == (c k : Int)) = false := by
          rw [beq_eq_false_iff_ne]; intro e; apply he; omega
        have HE := Lib.hid he
        clear he
        go_wp2_with fail
        go_round
        case rel => exact ⟨k + 1, by omega, by go_num, fun j hj => by
          by_cases e : j = k
          · subst e; exact HE.out
          · exact HD.out j (by omega)⟩
        case measure => simp [intOf]; omega
    · have hkm : k = m := by omega
      have HA : Hid (amongB c m s = false) := Lib.hid (by
        rcases ha : amongB c m s with _ | _
        · rfl
        · obtain ⟨j, hj, e⟩ := among_iff.1 ha
          exact absurd e (HD.out j (by omega)))
      go_wp2_with fail
      go_ret
      exact ⟨_, rfl, by rw [HA.out]; rfl, rfl⟩
theorem containsSet_any (c : Nat → Nat) (m s B cap n : Nat) (w : World) (hm : m ≤ 6) (hs : SpF w B n c) :
    Calls Tryd.prog 42 #[.slice (some ⟨B, 1, none⟩) m cap, .int .u64 s] w fun e w' => e = .returned (.bool (amongB c m s)) ∧ w = w' := by
  go_enter Tryd.func42, Tryd.ntmps42
  go_wp2_with fail
  refine (indexSet_any c m s B cap n _ hm hs).mono ?_
  rintro e w' ⟨i, rfl, hi, rfl⟩
  have HI := Lib.hid hi
  clear hi
  go_wp2_with fail
  go_ret
  exact ⟨ret_bool HI.out, rfl⟩

set_option maxRecDepth 100000 in
set_option maxHeartbeats 1600000 in
theorem isPlain_any (cs : List Nat) (w : World) (hc : Codes cs) :
    Calls Tryd.prog 45 #[spV cs] w fun e w' => e = .returned (.bool (plainB cs)) ∧ Below w.heap.size w w' := by
  have hn6 := hc.2.1
  clear hc
  go_enter Tryd.func45, Tryd.ntmps45
  go_wp2_with fail
  generalize hW : World.alloc w _ = W
  have hs1 : SpF W w.heap.size cs.length (cell cs) := by rw [← hW]; exact heap_alloc_new _ _
  have hbw : Below w.heap.size w W := by rw [← hW]; exact (Below.refl _ _).alloc (Nat.le_refl _) _
  clear hW
  generalize hB : w.heap.size = B at *
  go_loopw [6] (fun i wr => ∃ k : Nat, k ≤ cs.length ∧ i = .int .i64 k ∧ (∀ p, p < k → amongB (cell cs) p (cell cs p) = false) ∧ SpF wr B cs.length (cell cs) ∧ Below B w wr) (fun i _ => cs.length - (intOf i).toNat)
  case atStart => exact ⟨0, by omega, rfl, fun p hp => absurd hp (by omega), hs1, hbw⟩
  case round =>
    obtain ⟨k, hk, rfl, hd, hsr, hbr⟩ := hrel
    have HD := Lib.hid hd
    have HBR := Lib.hid hbr
    clear hd hs1 hbw hbr
    by_cases hlt : k < cs.length
    · have q1 := hsr.cell (p := k) (by omega)
      have k0 : (0 : Int) ≤ (k : Int) := by omega
      have k00 : ¬ (k : Int) < 0 := by omega
      have k1 : (k : Int) < (cs.length : Int) := by omega
      have k6 : (k : Int) < 6 := by omega
      have k7 : (k : Int) ≤ 6 := by omega
      rcases ha : amongB (cell cs) k (cell cs k) with _ | _
      · have hcall : ∀ w0, SpF w0 B cs.length (cell cs) → Calls Tryd.prog 42 #[.slice (some ⟨B, 1, none⟩) k 6, .int .u64 (cell cs k)] w0 fun e w' => e = .returned (.bool false) ∧ w0 = w' := fun w0 h => by
          have := containsSet_any (cell cs) k (cell cs k) B 6 cs.length w0 (by omega) h
          rwa [ha] at this
        have HCALL := Lib.hid hcall
        have HA := Lib.hid ha
        have HSR := Lib.hid hsr
        clear hcall ha hsr
        go_wp2_with fail
        go_quiet ((go_at_call 42; exact (HCALL.out _ (HSR.out.drewN _)).mono (fun e w' h => ⟨h.1, _, h.2.symm⟩)))
        go_wp2_with fail
        go_roundw
        case rel => exact ⟨k + 1, by omega, by go_num, fun p hp => by
          by_cases e : p = k
          · subst e; exact HA.out
          · exact HD.out p (by omega), HSR.out.drewN _, below_to HBR.out (by rw [← hB]; exact (by subst hB; exact HBR.out.size)) (below_drewN _ _)⟩
        case measure => simp [intOf]; omega
      · have hcall : ∀ w0, SpF w0 B cs.length (cell cs) → Calls Tryd.prog 42 #[.slice (some ⟨B, 1, none⟩) k 6, .int .u64 (cell cs k)] w0 fun e w' => e = .returned (.bool true) ∧ w0 = w' := fun w0 h => by
          have := containsSet_any (cell cs) k (cell cs k) B 6 cs.length w0 (by omega) h
          rwa [ha] at this
        have hno : plainB cs = false := by
          rcases hp : plainB cs with _ | _
          · rfl
          · obtain ⟨j, hj, e⟩ := among_iff.1 ha
            exact absurd e (plain_iff.1 hp k j hlt hj)
        have HCALL := Lib.hid hcall
        have HNO := Lib.hid hno
        have HSR := Lib.hid hsr
        clear hcall ha hsr hno
        go_wp2_with fail
        go_quiet ((go_at_call 42; exact (HCALL.out _ (HSR.out.drewN _)).mono (fun e w' h => ⟨h.1, _, h.2.symm⟩)))
        go_wp2_with fail
        go_ret
        refine ⟨ret_bool HNO.out.symm, ?_⟩
        subst hB
        exact below_to HBR.out HBR.out.size (below_drewN _ _)
    · have hyes : plainB cs = true := plain_iff.2 fun i j hi hj e => by
        have h1 := HD.out i (by omega)
        have h2 := among_iff.2 ⟨j, hj, e⟩
        rw [h1] at h2; cases h2
      have HY := Lib.hid hyes
      clear hyes hsr
      go_wp2_with fail
      go_ret
      refine ⟨ret_bool HY.out.symm, ?_⟩
      subst hB
      exact HBR.out
end Go.Proofs.YtmagkcioplcidaeDoor

/- ply: the smooth maps, one after the other: smooth's iterator. -/
set_option linter.unusedVariables false
set_option linter.unusedSimpArgs false
namespace Go.Proofs.YtmagkcioplcidaeDoor
open Go.RowKit Go.Shelf
attribute [local go_sem] Oper.semAt_some

/-! ### images -/
abbrev imF (f : Nat → Nat) : Value := .agg #[.int .i64 (f 0), .int .i64 (f 1), .int .i64 (f 2), .int .i64 (f 3), .int .i64 (f 4), .int .i64 (f 5)]
def ImF (w : World) (b : Nat) (f : Nat → Nat) : Prop := w.heap[b]? = some (.cells #[.int .i64 (f 0), .int .i64 (f 1), .int .i64 (f 2), .int .i64 (f 3), .int .i64 (f 4), .int .i64 (f 5)] 55)
theorem ImF.cell {w : World} {b : Nat} {c : Nat → Nat} (h : ImF w b c) {p : Nat} (hp : p < 6) : w.cell? ⟨b, p, none⟩ = some (.int .i64 (c p)) := by
  have e : p = 0 ∨ p = 1 ∨ p = 2 ∨ p = 3 ∨ p = 4 ∨ p = 5 := by omega
  rcases e with rfl | rfl | rfl | rfl | rfl | rfl <;> exact cell_of h rfl
theorem ImF.drewN {w : World} {b : Nat} {c : Nat → Nat} (h : ImF w b c) (k : Nat) : ImF (w.drewN k) b c := (heap_drewN _ _ _).trans h
theorem ImF.below {w w' : World} {b : Nat} {c : Nat → Nat} (h : ImF w b c) (hb : Below w.heap.size w w') : ImF w' b c := (hb.block b (heap_lt h)).trans h
theorem ImF.lt {w : World} {b : Nat} {c : Nat → Nat} (h : ImF w b c) : b < w.heap.size := heap_lt h
theorem ImF.free {w : World} {b : Nat} {c : Nat → Nat} (h : ImF w b c) (j : Nat) : w.frozen? ⟨b, j, none⟩ = false := free_of h j
theorem ImF.set {w : World} {b p v : Nat} {c c' : Nat → Nat} (h : ImF w b c) (hp : p < 6) (hc : ∀ j, j < 6 → c' j = if j = p then v else c j) : ImF (w.setCell ⟨b, p, none⟩ (.int .i64 v)) b c' := by
  have h0 := hc 0 (by omega)
  have h1 := hc 1 (by omega)
  have h2 := hc 2 (by omega)
  have h3 := hc 3 (by omega)
  have h4 := hc 4 (by omega)
  have h5 := hc 5 (by omega)
  have e : p = 0 ∨ p = 1 ∨ p = 2 ∨ p = 3 ∨ p = 4 ∨ p = 5 := by omega
  have hh := heap_setCell_same _ _ p _ _ (Value.int .i64 v) h
  unfold ImF
  rw [hh]
  rcases e with rfl | rfl | rfl | rfl | rfl | rfl <;> simp_all
theorem ImF.cells {w : World} {b : Nat} {c : Nat → Nat} (h : ImF w b c) : w.cell? ⟨b, 0, none⟩ = some (.int .i64 (c 0)) ∧ w.cell? ⟨b, 1, none⟩ = some (.int .i64 (c 1)) ∧ w.cell? ⟨b, 2, none⟩ = some (.int .i64 (c 2)) ∧
    w.cell? ⟨b, 3, none⟩ = some (.int .i64 (c 3)) ∧ w.cell? ⟨b, 4, none⟩ = some (.int .i64 (c 4)) ∧ w.cell? ⟨b, 5, none⟩ = some (.int .i64 (c 5)) :=
  ⟨cell_of h rfl, cell_of h rfl, cell_of h rfl, cell_of h rfl, cell_of h rfl, cell_of h rfl⟩
theorem cell_snoc (l : List Nat) (q j : Nat) : cell (l ++ [q]) j = if j = l.length then q else cell l j := by
  unfold cell
  by_cases h : j < l.length
  · rw [if_neg (by omega)]; simp [List.getElem?_append_left h]
  · by_cases e : j = l.length
    · subst e; simp
    · rw [if_neg e]; simp only [List.getD_eq_getElem?_getD]; rw [List.getElem?_eq_none (by simp; omega), List.getElem?_eq_none (by omega)]

/-! ### what is visited -/
def fit1 (cs ds : List Nat) (p : Nat) (g : Nat → Nat) (q o : Nat) : Bool := (!(cell cs p).testBit o || (cell ds q).testBit (g o)) && (!(cell cs o).testBit p || (cell ds (g o)).testBit q)
def fitTo (cs ds : List Nat) (p : Nat) (g : Nat → Nat) (q : Nat) : Nat → Bool
  | 0 => true
  | k + 1 => fitTo cs ds p g q k && fit1 cs ds p g q k
/-- may the point that comes go to q -/
def fitB (cs ds l : List Nat) (q : Nat) : Bool := fitTo cs ds l.length (cell (l ++ [q])) q l.length
def smL (cs ds : List Nat) : Nat → List Nat → List (List Nat)
  | 0, l => [l]
  | d + 1, l => (List.range ds.length).flatMap fun q => if fitB cs ds l q = true then smL cs ds d (l ++ [q]) else []
def smTo (cs ds : List Nat) (d : Nat) (l : List Nat) (m : Nat) : List (List Nat) := (List.range m).flatMap fun q => if fitB cs ds l q = true then smL cs ds d (l ++ [q]) else []
theorem smTo_succ (cs ds : List Nat) (d : Nat) (l : List Nat) (m : Nat) : smTo cs ds d l (m + 1) = smTo cs ds d l m ++ if fitB cs ds l m = true then smL cs ds d (l ++ [m]) else [] := by simp [smTo, List.range_succ]
theorem smTo_le (cs ds : List Nat) (d : Nat) (l : List Nat) : ∀ k m, smTo cs ds d l m <+: smTo cs ds d l (m + k)
  | 0, m => List.prefix_rfl
  | k + 1, m => (smTo_le cs ds d l k m).trans (by rw [← Nat.add_assoc, smTo_succ]; exact List.prefix_append _ _)

/-! ### the walk -/
def ExtI (X : Nat → Prop) (J Jx : List (List Nat) → World → Prop) (pre L : List (List Nat)) (W : World) (c : Bool) (W' : World) : Prop :=
  KeepX X W W' ∧ (c = true → J (pre ++ L) W') ∧ (c = false → ∃ ys, ys <+: L ∧ Jx (pre ++ ys) W')
theorem ExtI.mono {X : Nat → Prop} {J Jx : List (List Nat) → World → Prop} {pre L : List (List Nat)} {W0 W W' : World} {c : Bool} (h : ExtI X J Jx pre L W c W') (hk : KeepX X W0 W) : ExtI X J Jx pre L W0 c W' := ⟨hk.trans h.1, h.2⟩
structure CapsI (X : Nat → Prop) (cs ds : List Nat) (l Bx By Bz Be : Nat) (W : World) : Prop where
  x0 : SpF W Bx cs.length (cell cs)
  y0 : W.heap[By]? = some (.cells #[.func (.yield l) #[] #[]] 68)
  z0 : SpF W Bz ds.length (cell ds)
  e0 : W.heap[Be]? = some (.cells #[.func (.func 41) #[] #[.pointer (some ⟨Bx, 0, none⟩), .pointer (some ⟨By, 0, none⟩), .pointer (some ⟨Bz, 0, none⟩), .pointer (some ⟨Be, 0, none⟩)]] 69)
  nx : ¬ X Bx ∧ ¬ X By ∧ ¬ X Bz ∧ ¬ X Be
theorem CapsI.keep {X : Nat → Prop} {cs ds : List Nat} {l Bx By Bz Be : Nat} {W W' : World} (h : CapsI X cs ds l Bx By Bz Be W) (hk : KeepX X W W') : CapsI X cs ds l Bx By Bz Be W' :=
  ⟨hk.block h.x0 h.nx.1, hk.block h.y0 h.nx.2.1, hk.block h.z0 h.nx.2.2.1, hk.block h.e0 h.nx.2.2.2, h.nx⟩
theorem CapsI.set {X : Nat → Prop} {cs ds : List Nat} {l Bx By Bz Be : Nat} {W : World} (h : CapsI X cs ds l Bx By Bz Be W) {b : Nat} (h1 : Bx < b) (h2 : By < b) (h3 : Bz < b) (h4 : Be < b) (j : Nat) (v : Value) : CapsI X cs ds l Bx By Bz Be (W.setCell ⟨b, j, none⟩ v) :=
  ⟨h.x0.other (by omega), (heap_setCell_other _ _ _ _ (by show By ≠ b; omega)).trans h.y0, h.z0.other (by omega), (heap_setCell_other _ _ _ _ (by show Be ≠ b; omega)).trans h.e0, h.nx⟩
theorem has_known {s p : Nat} {b : Bool} (h : s.testBit p = b) (hs : s < 64) (hp : p < 64) (w : World) : Calls Tryd.prog 25 #[.int .u64 s, .int .i64 p] w fun e w' => e = .returned (.bool b) ∧ w = w' := by
  have := has_any s p w hs hp
  rwa [h] at this
def YieldI (X : Nat → Prop) (n m l : Nat) (J Jx : List (List Nat) → World → Prop) : Prop :=
  ∀ pre x W1, J pre W1 → (x.length = n ∧ ∀ y ∈ x, y < m) → YieldAt Fence.wide 0 Tryd.prog l #[imF (cell x)] W1 fun e W' => (e = .returned (.bool true) ∧ J (pre ++ [x]) W' ∧ KeepX X W1 W') ∨ (e = .returned (.bool false) ∧ Jx (pre ++ [x]) W' ∧ KeepX X W1 W')

set_option maxRecDepth 100000 in
set_option maxHeartbeats 32000000 in
theorem extend_in (X : Nat → Prop) (cs ds : List Nat) (hc : Codes cs) (hd : Codes ds) (l Bx By Bz Be B0 : Nat) (hXB : ∀ b, X b → b < B0) (J Jx : List (List Nat) → World → Prop) (hJ : AbidesFrom B0 J) (hJB : ∀ pre W b j v, B0 ≤ b → J pre W → J pre (W.setCell ⟨b, j, none⟩ v)) (hY : YieldI X cs.length ds.length l J Jx) :
    ∀ (d : Nat) (lst : List Nat) (W : World) (pre : List (List Nat)), lst.length + d = cs.length → (∀ x ∈ lst, x < ds.length) → B0 ≤ W.heap.size → CapsI X cs ds l Bx By Bz Be W → J pre W →
      CallsIn Fence.wide 9 Tryd.prog 41 #[imF (cell lst), .int .i64 lst.length, .pointer (some ⟨Bx, 0, none⟩), .pointer (some ⟨By, 0, none⟩), .pointer (some ⟨Bz, 0, none⟩), .pointer (some ⟨Be, 0, none⟩)] W fun e W' => ∃ c, e = .returned (.bool c) ∧ ExtI X J Jx pre (smL cs ds d lst) W c W' := by
  intro d
  induction d with
  | zero =>
    intro lst W pre hdl hsm hB0 hcap hj
    have hn6 := hc.2.1
    have hal := (Below.refl W.heap.size W).alloc (Nat.le_refl _) (.cells #[.int .i64 (cell lst 0), .int .i64 (cell lst 1), .int .i64 (cell lst 2), .int .i64 (cell lst 3), .int .i64 (cell lst 4), .int .i64 (cell lst 5)] 55)
    have him : ImF (W.alloc (.cells #[.int .i64 (cell lst 0), .int .i64 (cell lst 1), .int .i64 (cell lst 2), .int .i64 (cell lst 3), .int .i64 (cell lst 4), .int .i64 (cell lst 5)] 55)) W.heap.size (cell lst) := heap_alloc_new _ _
    have hk1 := KeepX.of_below (X := X) hal
    have hj1 := hJ _ _ _ none hj (below_grown0 hal) (fun _ e => by cases e)
    have hc1 := hcap.keep hk1
    refine (callsIn_of_wp Tryd.func41 rfl trivial ?_ rfl)
    simp only [Tryd.ntmps41, List.size_toArray, List.length_cons, List.length_nil, Nat.reduceAdd, Nat.reduceSub, Array.replicate_succ, Array.replicate_zero, List.push_toArray, List.append_toArray, List.nil_append, List.cons_append]
    have heq : ((lst.length : Int) == (cs.length : Int)) = true := by simp; omega
    obtain ⟨d0, d1, d2, d3, d4, d5⟩ := him.cells
    have dn := hc1.x0.n
    have dy := cell_of hc1.y0 (j := 0) rfl
    obtain ⟨fn, tmps, ca, bd, hy, hR⟩ := hY pre lst _ hj1 ⟨by omega, hsm⟩
    have hR2 := RoundIn.any 8 hR
    have hR3 := hR2.mono (R' := fun e W' => ∃ c, e = .returned (.bool c) ∧ ExtI X J Jx pre [lst] W c W') (by
      rintro e W' (⟨rfl, h3, h4⟩ | ⟨rfl, h3, h4⟩)
      · exact ⟨true, rfl, hk1.trans h4, fun _ => h3, fun h => (by cases h)⟩
      · exact ⟨false, rfl, hk1.trans h4, fun h => (by cases h), fun _ => ⟨[lst], List.prefix_rfl, h3⟩⟩)
    clear hR hR2 hY him hc1 hcap hj hal
    gi_wp2_with fail
    refine hR3.mono ?_
    rintro e W' ⟨c, rfl, hext⟩
    gi_wp2
    go_ret
    exact ⟨c, rfl, hext⟩
  | succ d ih =>
    intro lst W pre hdl hsm hB0 hcap hj
    have hn6 := hc.2.1
    have hm6 := hd.2.1
    have hal := (Below.refl W.heap.size W).alloc (Nat.le_refl _) (.cells #[.int .i64 (cell lst 0), .int .i64 (cell lst 1), .int .i64 (cell lst 2), .int .i64 (cell lst 3), .int .i64 (cell lst 4), .int .i64 (cell lst 5)] 55)
    have him : ImF (W.alloc (.cells #[.int .i64 (cell lst 0), .int .i64 (cell lst 1), .int .i64 (cell lst 2), .int .i64 (cell lst 3), .int .i64 (cell lst 4), .int .i64 (cell lst 5)] 55)) W.heap.size (cell lst) := heap_alloc_new _ _
    have hk1 := KeepX.of_below (X := X) hal
    have hj1 := hJ _ _ _ none hj (below_grown0 hal) (fun _ e => by cases e)
    have hc1 := hcap.keep hk1
    have hne : ((lst.length : Int) == (cs.length : Int)) = false := by simp; omega
    have lx : Bx < W.heap.size := hcap.x0.lt
    have ly : By < W.heap.size := heap_lt hcap.y0
    have lz : Bz < W.heap.size := hcap.z0.lt
    have le : Be < W.heap.size := heap_lt hcap.e0
    have hnXi : ¬ X W.heap.size := fun h => by have := hXB _ h; omega
    refine (callsIn_of_wp Tryd.func41 rfl trivial ?_ rfl)
    simp only [Tryd.ntmps41, List.size_toArray, List.length_cons, List.length_nil, Nat.reduceAdd, Nat.reduceSub, Array.replicate_succ, Array.replicate_zero, List.push_toArray, List.append_toArray, List.nil_append, List.cons_append]
    have dn := hc1.x0.n
    have dm := hc1.z0.n
    have HC := Lib.hid hc
    have HD := Lib.hid hd
    have HSM := Lib.hid hsm
    have HC1 := Lib.hid hc1
    have HJ1 := Lib.hid hj1
    have HIM := Lib.hid him
    have HK1 := Lib.hid hk1
    clear hc hd hsm hc1 hj1 him hk1 hj hcap hal
    gi_wp2_with fail
    generalize hW1 : World.alloc W _ = W1 at *
    have hs1 : W1.heap.size = W.heap.size + 1 := by rw [← hW1]; simp
    clear hW1 dn dm hne
    generalize hBi : W.heap.size = Bi at *
    gi_loopw [21] (fun i wr => ∃ (k : Nat) (f : Nat → Nat), k ≤ ds.length ∧ i = .int .i64 k ∧ ImF wr Bi f ∧ (∀ j, j ≠ lst.length → f j = cell lst j) ∧ J (pre ++ smTo cs ds d lst k) wr ∧ KeepX X W wr ∧ CapsI X cs ds l Bx By Bz Be wr) (fun i _ => ds.length - (intOf i).toNat)
    case atStart => exact ⟨0, _, by omega, rfl, HIM.out, fun _ _ => rfl, by simpa [smTo] using HJ1.out, HK1.out, HC1.out⟩
    case round =>
      obtain ⟨k, f, hk, rfl, him, hf, hjr, hkr, hcr⟩ := hrel
      by_cases hlt : k < ds.length
      · have hp6 : lst.length < 6 := by omega
        have p0 : (0 : Int) ≤ (lst.length : Int) := by omega
        have p6 : (lst.length : Int) < 6 := by omega
        have k1 : (k : Int) < (ds.length : Int) := by omega
        have cp := him.cell hp6
        have fp := him.free lst.length
        have HIM2 : Hid (ImF (wr.setCell ⟨Bi, lst.length, none⟩ (.int .i64 k)) Bi (cell (lst ++ [k]))) := Lib.hid (him.set hp6 (fun j hj => by
          rw [cell_snoc]
          split
          · rfl
          · exact (hf j ‹_›).symm))
        have HJ2 : Hid (J (pre ++ smTo cs ds d lst k) (wr.setCell ⟨Bi, lst.length, none⟩ (.int .i64 k))) := Lib.hid (hJB _ _ _ _ _ hB0 hjr)
        have HK2 : Hid (KeepX X W (wr.setCell ⟨Bi, lst.length, none⟩ (.int .i64 k))) := Lib.hid ⟨by simpa using hkr.1, fun b hb hx => (heap_setCell_other _ _ _ _ (by show b ≠ Bi; omega)).trans (hkr.2 b hb hx)⟩
        have HC2 : Hid (CapsI X cs ds l Bx By Bz Be (wr.setCell ⟨Bi, lst.length, none⟩ (.int .i64 k))) := Lib.hid (hcr.set (by omega) (by omega) (by omega) (by omega) _ _)
        clear him hjr hkr hcr
        gi_wp2_with fail
        generalize hW2 : wr.setCell _ _ = W2 at *
        clear hW2
        gi_loopw [10, 28] (fun fi i w2 => ∃ (o : Nat), o ≤ lst.length ∧ i = .int .i64 o ∧ fi = .bool (fitTo cs ds lst.length (cell (lst ++ [k])) k o) ∧ Below W2.heap.size W2 w2) (fun _ i _ => lst.length - (intOf i).toNat)
        case atStart => exact ⟨0, by omega, rfl, rfl, Below.refl _ _⟩
        case round =>
          obtain ⟨o, ho, rfl, rfl, hbo⟩ := hrel
          have HB := Lib.hid hbo
          by_cases hol : o < lst.length
          · have ho6 : o < 6 := by omega
            have hk6 : k < 6 := by omega
            have hg6 : cell (lst ++ [k]) o < 6 := by
              rw [cell_snoc, if_neg (by omega)]
              have := HSM.out (cell lst o) (by simp [cell, List.getD_eq_getElem?_getD, hol])
              omega
            have o0 : (0 : Int) ≤ (o : Int) := by omega
            have o6 : (o : Int) < 6 := by omega
            have o1 : (o : Int) < (lst.length : Int) := by omega
            have g0 : (0 : Int) ≤ (cell (lst ++ [k]) o : Int) := by omega
            have g6 : (cell (lst ++ [k]) o : Int) < 6 := by omega
            have j0 : (0 : Int) ≤ (k : Int) := by omega
            have j6 : (k : Int) < 6 := by omega
            have q1 := (HC2.out.keep (KeepX.of_below hbo)).x0.cell hp6
            have q2 := (HC2.out.keep (KeepX.of_below hbo)).x0.cell ho6
            have q3 := (HC2.out.keep (KeepX.of_below hbo)).z0.cell hk6
            have q4 := (HC2.out.keep (KeepX.of_below hbo)).z0.cell hg6
            have q5 := (HIM2.out.below hbo).cell ho6
            have HA1 : ∀ b, (cell cs lst.length).testBit o = b → Hid (∀ w, Calls Tryd.prog 25 #[.int .u64 (cell cs lst.length), .int .i64 o] w fun e w' => e = .returned (.bool b) ∧ w = w') := fun b h => Lib.hid (has_known h (cell_64 HC.out _) (by omega))
            have HB1 : ∀ b, (cell ds k).testBit (cell (lst ++ [k]) o) = b → Hid (∀ w, Calls Tryd.prog 25 #[.int .u64 (cell ds k), .int .i64 (cell (lst ++ [k]) o)] w fun e w' => e = .returned (.bool b) ∧ w = w') := fun b h => Lib.hid (has_known h (cell_64 HD.out _) (by omega))
            have HA2 : ∀ b, (cell cs o).testBit lst.length = b → Hid (∀ w, Calls Tryd.prog 25 #[.int .u64 (cell cs o), .int .i64 lst.length] w fun e w' => e = .returned (.bool b) ∧ w = w') := fun b h => Lib.hid (has_known h (cell_64 HC.out _) (by omega))
            have HB2 : ∀ b, (cell ds (cell (lst ++ [k]) o)).testBit k = b → Hid (∀ w, Calls Tryd.prog 25 #[.int .u64 (cell ds (cell (lst ++ [k]) o)), .int .i64 k] w fun e w' => e = .returned (.bool b) ∧ w = w') := fun b h => Lib.hid (has_known h (cell_64 HD.out _) (by omega))
            have hf1 : fit1 cs ds lst.length (cell (lst ++ [k])) k o = ((!(cell cs lst.length).testBit o || (cell ds k).testBit (cell (lst ++ [k]) o)) && (!(cell cs o).testBit lst.length || (cell ds (cell (lst ++ [k]) o)).testBit k)) := rfl
            generalize hF : fitTo cs ds lst.length (cell (lst ++ [k])) k o = F at *
            generalize hG : fit1 cs ds lst.length (cell (lst ++ [k])) k o = G at *
            generalize hA1 : (cell cs lst.length).testBit o = a1 at *
            generalize hB1 : (cell ds k).testBit (cell (lst ++ [k]) o) = b1 at *
            generalize hA2 : (cell cs o).testBit lst.length = a2 at *
            generalize hB2 : (cell ds (cell (lst ++ [k]) o)).testBit k = b2 at *
            have HF := Lib.hid hF
            have HG := Lib.hid hG
            replace HA1 := HA1 _ rfl
            replace HB1 := HB1 _ rfl
            replace HA2 := HA2 _ rfl
            replace HB2 := HB2 _ rfl
            clear hbo hF hG hA1 hB1 hA2 hB2 hf
            clear HIM2 HJ2 HK2
            have HC3 := Lib.hid HC2
            clear HC2 HC1
            generalize cell (lst ++ [k]) o = g at *
            generalize cell cs lst.length = s1 at *
            generalize cell cs o = s2 at *
            generalize cell ds k = s3 at *
            generalize cell ds g = s4 at *
            cases F
            · subst hf1
              gi_wp2_with fail
              refine wpIn_wide.2 ?_
              refine wp_region_quiet_lit (by kernel_rfl) (by kernel_rfl) ?_
              repeat (go_big_quiet_step (fail))
              refine wpQuiet_nil ?_
              intro _ hw'
              obtain ⟨nq, hw''⟩ := hw'
              subst hw''
              gi_wp2
              go_roundw
              case rel => exact ⟨o + 1, by omega, by go_num, by simp only [fitTo, HF.out, Bool.false_and], below_to HB.out HB.out.size (below_drewN _ _)⟩
              case measure => simp [intOf]; omega
            · cases a1
              · cases a2
                · obtain rfl : G = true := hf1
                  gi_wp2_with fail
                  refine wpIn_wide.2 ?_
                  refine wp_region_quiet_lit (by kernel_rfl) (by kernel_rfl) ?_
                  repeat (go_big_quiet_step (fail))
                  quiet_step ((go_at_call 25; exact (HA1.out _).mono (fun e w' h => ⟨h.1, _, h.2.symm⟩)))
                  repeat (go_big_quiet_step (fail))
                  quiet_step ((go_at_call 25; exact (HA2.out _).mono (fun e w' h => ⟨h.1, _, h.2.symm⟩)))
                  repeat (go_big_quiet_step (fail))
                  refine wpQuiet_nil ?_
                  intro _ hw'
                  obtain ⟨nq, hw''⟩ := hw'
                  subst hw''
                  gi_wp2
                  go_roundw
                  case rel => exact ⟨o + 1, by omega, by go_num, by simp only [fitTo, HF.out, HG.out, Bool.true_and], below_to HB.out HB.out.size (below_drewN _ _)⟩
                  case measure => simp [intOf]; omega
                · obtain rfl : G = b2 := by rw [hf1]; simp
                  clear hf1
                  gi_wp2_with fail
                  refine wpIn_wide.2 ?_
                  refine wp_region_quiet_lit (by kernel_rfl) (by kernel_rfl) ?_
                  repeat (go_big_quiet_step (fail))
                  quiet_step ((go_at_call 25; exact (HA1.out _).mono (fun e w' h => ⟨h.1, _, h.2.symm⟩)))
                  repeat (go_big_quiet_step (fail))
                  quiet_step ((go_at_call 25; exact (HA2.out _).mono (fun e w' h => ⟨h.1, _, h.2.symm⟩)))
                  repeat (go_big_quiet_step (fail))
                  quiet_step ((go_at_call 25; exact (HB2.out _).mono (fun e w' h => ⟨h.1, _, h.2.symm⟩)))
                  repeat (go_big_quiet_step (fail))
                  refine wpQuiet_nil ?_
                  intro _ hw'
                  obtain ⟨nq, hw''⟩ := hw'
                  subst hw''
                  gi_wp2
                  go_roundw
                  case rel => exact ⟨o + 1, by omega, by go_num, by simp only [fitTo, HF.out, HG.out, Bool.true_and], below_to HB.out HB.out.size (below_drewN _ _)⟩
                  case measure => simp [intOf]; omega
              · cases b1
                · obtain rfl : G = false := hf1
                  gi_wp2_with fail
                  refine wpIn_wide.2 ?_
                  refine wp_region_quiet_lit (by kernel_rfl) (by kernel_rfl) ?_
                  repeat (go_big_quiet_step (fail))
                  quiet_step ((go_at_call 25; exact (HA1.out _).mono (fun e w' h => ⟨h.1, _, h.2.symm⟩)))
                  repeat (go_big_quiet_step (fail))
                  quiet_step ((go_at_call 25; exact (HB1.out _).mono (fun e w' h => ⟨h.1, _, h.2.symm⟩)))
                  repeat (go_big_quiet_step (fail))
                  refine wpQuiet_nil ?_
                  intro _ hw'
                  obtain ⟨nq, hw''⟩ := hw'
                  subst hw''
                  gi_wp2
                  go_roundw
                  case rel => exact ⟨o + 1, by omega, by go_num, by simp only [fitTo, HF.out, HG.out, Bool.true_and], below_to HB.out HB.out.size (below_drewN _ _)⟩
                  case measure => simp [intOf]; omega
                · cases a2
                  · obtain rfl : G = true := hf1
                    gi_wp2_with fail
                    refine wpIn_wide.2 ?_
                    refine wp_region_quiet_lit (by kernel_rfl) (by kernel_rfl) ?_
                    repeat (go_big_quiet_step (fail))
                    quiet_step ((go_at_call 25; exact (HA1.out _).mono (fun e w' h => ⟨h.1, _, h.2.symm⟩)))
                    repeat (go_big_quiet_step (fail))
                    quiet_step ((go_at_call 25; exact (HB1.out _).mono (fun e w' h => ⟨h.1, _, h.2.symm⟩)))
                    repeat (go_big_quiet_step (fail))
                    quiet_step ((go_at_call 25; exact (HA2.out _).mono (fun e w' h => ⟨h.1, _, h.2.symm⟩)))
                    repeat (go_big_quiet_step (fail))
                    refine wpQuiet_nil ?_
                    intro _ hw'
                    obtain ⟨nq, hw''⟩ := hw'
                    subst hw''
                    gi_wp2
                    go_roundw
                    case rel => exact ⟨o + 1, by omega, by go_num, by simp only [fitTo, HF.out, HG.out, Bool.true_and], below_to HB.out HB.out.size (below_drewN _ _)⟩
                    case measure => simp [intOf]; omega
                  · obtain rfl : G = b2 := by rw [hf1]; simp
                    clear hf1
                    gi_wp2_with fail
                    refine wpIn_wide.2 ?_
                    refine wp_region_quiet_lit (by kernel_rfl) (by kernel_rfl) ?_
                    repeat (go_big_quiet_step (fail))
                    quiet_step ((go_at_call 25; exact (HA1.out _).mono (fun e w' h => ⟨h.1, _, h.2.symm⟩)))
                    repeat (go_big_quiet_step (fail))
                    quiet_step ((go_at_call 25; exact (HB1.out _).mono (fun e w' h => ⟨h.1, _, h.2.symm⟩)))
                    repeat (go_big_quiet_step (fail))
                    quiet_step ((go_at_call 25; exact (HA2.out _).mono (fun e w' h => ⟨h.1, _, h.2.symm⟩)))
                    repeat (go_big_quiet_step (fail))
                    quiet_step ((go_at_call 25; exact (HB2.out _).mono (fun e w' h => ⟨h.1, _, h.2.symm⟩)))
                    repeat (go_big_quiet_step (fail))
                    refine wpQuiet_nil ?_
                    intro _ hw'
                    obtain ⟨nq, hw''⟩ := hw'
                    subst hw''
                    gi_wp2
                    go_roundw
                    case rel => exact ⟨o + 1, by omega, by go_num, by simp only [fitTo, HF.out, HG.out, Bool.true_and], below_to HB.out HB.out.size (below_drewN _ _)⟩
                    case measure => simp [intOf]; omega
          · have hop : o = lst.length := by omega
            subst hop
            have hkk := KeepX.of_below (X := X) hbo
            have HIM4 := Lib.hid (HIM2.out.below hbo)
            have HJ4 := Lib.hid (hJ _ _ _ none HJ2.out (below_grown0 hbo) (fun _ e => by cases e))
            have HK4 := Lib.hid (HK2.out.trans hkk)
            have HC4 := Lib.hid (HC2.out.keep hkk)
            have hsz4 : B0 ≤ wr.heap.size := by
              have := HK4.out.1
              omega
            have hfb : fitTo cs ds lst.length (cell (lst ++ [k])) k lst.length = fitB cs ds lst k := rfl
            rw [hfb]
            clear hfb hbo hkk
            rcases hF : fitB cs ds lst k with _ | _
            · have HF := Lib.hid hF
              clear hF
              gi_wp2_with fail
              refine ⟨fun _ h => (by cases h), ?_⟩
              gi_wp2_with fail
              go_roundw
              case rel => exact ⟨k + 1, _, by omega, by go_num, HIM4.out, fun j hj => by rw [cell_snoc, if_neg hj], by rw [smTo_succ, HF.out]; simpa using HJ4.out, HK4.out, HC4.out⟩
              case measure => simp [intOf]; omega
            · have HF := Lib.hid hF
              have e0 := cell_of HC4.out.e0 (j := 0) rfl
              obtain ⟨d0, d1, d2, d3, d4, d5⟩ := HIM4.out.cells
              have hih := CallsIn.any 8 (ih (lst ++ [k]) wr (pre ++ smTo cs ds d lst k) (by simp; omega) (fun x hx => by
                rcases List.mem_append.1 hx with hx | hx
                · exact HSM.out x hx
                · rw [List.mem_singleton.1 hx]; exact hlt) hsz4 HC4.out HJ4.out)
              rw [show (((lst ++ [k]).length : Nat) : Int) = (lst.length : Int) + 1 by simp] at hih
              have HIH := Lib.hid hih
              clear hih hF ih
              gi_wp2_with fail
              refine ⟨trivial, HIH.out.mono ?_⟩
              rintro e W' ⟨c, rfl, hext⟩
              have HE := Lib.hid hext
              clear hext d0 d1 d2 d3 d4 d5 e0 cp fp
              cases c
              · gi_wp2_with fail
                go_ret
                obtain ⟨g1, _, g3⟩ := HE.out
                obtain ⟨zs, g4, g5⟩ := g3 rfl
                refine ⟨false, rfl, HK4.out.trans g1, fun h => (by cases h), fun _ => ⟨smTo cs ds d lst k ++ zs, ?_, by rw [← List.append_assoc]; exact g5⟩⟩
                refine List.IsPrefix.trans ?_ (smTo_le cs ds d lst (ds.length - (k + 1)) (k + 1) |>.trans (by rw [show k + 1 + (ds.length - (k + 1)) = ds.length by omega]; exact List.prefix_rfl))
                rw [smTo_succ, if_pos HF.out, List.prefix_append_right_inj]; exact g4
              · gi_wp2_with fail
                obtain ⟨g1, g2, _⟩ := HE.out
                have g4 := g2 rfl
                go_roundw
                case rel => exact ⟨k + 1, _, by omega, by go_num, g1.block HIM4.out hnXi, fun j hj => by rw [cell_snoc, if_neg hj], by rw [smTo_succ, if_pos HF.out, ← List.append_assoc]; exact g4, HK4.out.trans g1, HC4.out.keep g1⟩
                case measure => simp [intOf]; omega
      · have hkn : k = ds.length := by omega
        have HK := Lib.hid hkn
        clear hkn
        gi_wp2
        go_ret
        refine ⟨true, rfl, hkr, fun _ => ?_, fun h => (by cases h)⟩
        rw [HK.out] at hjr
        exact hjr
end Go.Proofs.YtmagkcioplcidaeDoor

/- A range statement over an iterator that writes cells of blocks of its own. -/
set_option linter.unusedVariables false
set_option linter.unusedSimpArgs false
namespace Go.Proofs.YtmagkcioplcidaeDoor
open Go.RowKit

section
variable {α : Type} {n : Nat} {P : Program}

/-- the contract of an iterator that writes cells of its own: at each call of yield, Px holds of what came before, of the element and of the world -/
def GivenB (n : Nat) (P : Program) (gf : Nat) (lb : Array Value) (encs : α → Array Value) (Kp : World → World → Prop) (S Sp : List α → Prop) (Px : List α → α → World → Prop) (w : World) : Prop :=
  ∀ (l : Nat) (J Jx : List α → World → Prop) (W : World), Below w.heap.size w W → w.heap.size + 2 ≤ W.heap.size → AbidesFrom W.heap.size J → AbidesFrom W.heap.size Jx → (∀ pre V b j v, W.heap.size ≤ b → J pre V → J pre (V.setCell ⟨b, j, none⟩ v)) →
    (∀ pre x W1, J pre W1 → Px pre x W1 → YieldAt Fence.wide (n - 1) P l (encs x) W1 fun e W' => (e = .returned (.bool true) ∧ J (pre ++ [x]) W' ∧ Kp W1 W') ∨ (e = .returned (.bool false) ∧ Jx (pre ++ [x]) W' ∧ Kp W1 W')) →
    J [] W → CallsIn Fence.wide n P gf (#[.func (.yield l) #[] #[]] ++ lb) W fun e W' => (∃ v, e = .returned v) ∧ ((∃ xs, S xs ∧ J xs W') ∨ (∃ pre, Sp pre ∧ Jx pre W'))

theorem range_bears {g : Operand} {ps : Array Tmp} {assign body : Code} {Q : Exit → Act → World → Prop} {a : Act} {w : World}
    {gf : Nat} {lb : Array Value} (hg : a.eval g = .func (.func gf) #[] lb) (eg : ∀ args w, (callFunc gf args).run P w = .ok (.enter gf args) w)
    {encs : α → Array Value} {Kp : World → World → Prop} {S Sp : List α → Prop} {Px : List α → α → World → Prop} (hseq : GivenB (n - 1) P gf lb encs Kp S Sp Px w)
    (hKt : ∀ {A B C : World}, Kp A B → Kp B C → Kp A C) (hKb : ∀ (W : World) (o' : Obj), Kp W (W.putObj (w.heap.size + 1) o')) (hps : ∀ x, (encs x).size = ps.size)
    (I : List α → World → Prop) (Ix : Code → List α → World → Prop) (hI : OwnFrom w.heap.size I) (hIx : ∀ c, OwnFrom w.heap.size (Ix c)) (hIB : ∀ pre V b j v, w.heap.size ≤ b → I pre V → I pre (V.setCell ⟨b, j, none⟩ v)) (h0 : I [] w)
    (Ax : List α → α → Act → World → Prop) (hAx : ∀ pre x a', OwnFrom w.heap.size (fun (_ : Unit) W => Ax pre x a' W))
    (hassign : ∀ (l : Nat) (pre : List α) (x : α) (W : World) (K : Act → World → Prop), I pre W → Px pre x W → (∀ a' W', KeepsFrom w.heap.size W W' → Kp W W' → I pre W' → Ax pre x a' W' → K a' W') →
      assign.wpIn (Fence.wide.inRound l) (n - 1 - 1) P (Exit.then K (fun _ _ _ => False)) { tmps := (ps.zip (encs x)).foldl (fun t (p, v) => t.setIfInBounds p v) a.tmps, defers := [] } W)
    (hbody : ∀ (l : Nat) (pre : List α) (x : α) (a' : Act) (W : World), w.heap.size ≤ l → (∃ r, W.heap[l]? = some (.loop r)) → I pre W → Ax pre x a' W → body.wpIn (Fence.wide.inRound l) (n - 1 - 1) P (roundPostK w.heap.size Kp I Ix (pre ++ [x]) W) a' W)
    (hdone : ∀ (D : Nat) (xs : List α) (W : World), w.heap.size ≤ D → S xs → I xs W → W.heap[D]? = some (.deferred (some [])) → Q .normal { a with defers := { target := .collected D, args := #[] } :: a.defers } W)
    (hstop : ∀ (D : Nat) (c : Code) (pre : List α) (W : World), w.heap.size ≤ D → Sp pre → Ix c pre W → W.heap[D]? = some (.deferred (some [])) → c.wpIn Fence.wide n P Q { a with defers := { target := .collected D, args := #[] } :: a.defers } W) :
    (Code.rangeFunc g ps assign body).wpIn Fence.wide n P Q a w := by
  refine wpIn_rangeFunc fun fn hfn => ?_
  let rec0 : LoopState → Option Code → Loop := fun st pe => { state := st, pending := pe, fn := fn, tmps := a.tmps, params := ps, assign := assign, body := body, defers := w.heap.size }
  have hB1 : Books w (rec0 .ready none) ((w.alloc (.deferred (some []))).alloc (.loop (rec0 .ready none))) := by
    refine ⟨?_, (heap_alloc_lt _ _ _ (by simp)).trans (heap_alloc_new _ _)⟩
    exact heap_alloc_at _ _ _ (by simp)
  have hsz : ((w.alloc (.deferred (some []))).alloc (.loop (rec0 .ready none))).heap.size = w.heap.size + 2 := by simp
  have hbel : Below w.heap.size w ((w.alloc (.deferred (some []))).alloc (.loop (rec0 .ready none))) := ((Below.refl _ w).alloc (Nat.le_refl _) _).alloc (by simp) _
  have hent := run_enterLoop_outer (P := P) (w := w) fn a.tmps ps assign body
  have own : ∀ {A : World} {row : Option Nat}, (∀ r, row = some r → w.heap.size + 2 ≤ r ∧ ∃ o : Obj, A.heap[r]? = some o ∧ o.isWalk = true) → ∀ r, row = some r → w.heap.size ≤ r ∧ ∃ o : Obj, A.heap[r]? = some o ∧ o.isCells = false :=
    fun hr r e => by obtain ⟨hB, o, ho, hw⟩ := hr r e; exact ⟨by omega, o, ho, Obj.not_cells_of_walk hw⟩
  refine ⟨w.heap.size + 1, [{ target := .collected w.heap.size, args := #[] }], (w.alloc (.deferred (some []))).alloc (.loop (rec0 .ready none)), { target := .fn (.func gf) lb, args := #[.func (.yield (w.heap.size + 1)) #[] #[]] }, (w.alloc (.deferred (some []))).alloc (.loop (rec0 .ready none)), gf,
    #[.func (.yield (w.heap.size + 1)) #[] #[]] ++ lb, (w.alloc (.deferred (some []))).alloc (.loop (rec0 .ready none)), hent, ?_, fun _ _ => trivial, ?_, fun h => by simp [Fence.wide] at h, ?_⟩
  · simp only [resolve, hg]; simp [go_sem]
  · simp [invoke, go_sem, eg]
  refine (hseq (w.heap.size + 1) (fun pre W => I pre W ∧ Books w (rec0 .ready none) W) (fun pre W => ∃ c, Ix c pre W ∧ Books w (rec0 .done (some c)) W) _ hbel (by rw [hsz]; exact Nat.le_refl _) ?_ ?_ ?_ ?_ ⟨hI.alloc _ (hI.alloc _ h0), hB1⟩).mono ?_
  · intro s A B row hs hg' hr
    rw [hsz] at hr
    exact ⟨hI s A B row hs.1 hg' (own hr), hs.2.abides (W1 := (w.alloc (.deferred (some []))).alloc (.loop (rec0 .ready none))) hg' (by rw [hsz]; exact hr)⟩
  · rintro s A B row ⟨c, h1, h2⟩ hg' hr
    rw [hsz] at hr
    exact ⟨c, hIx c s A B row h1 hg' (own hr), h2.abides (W1 := (w.alloc (.deferred (some []))).alloc (.loop (rec0 .ready none))) hg' (by rw [hsz]; exact hr)⟩
  · rintro s A b j v hb ⟨h1, h2⟩
    rw [hsz] at hb
    exact ⟨hIB _ _ _ _ _ (by omega) h1, h2.keeps ((KeepsOthers.setCell _ _ _).from _)⟩
  · rintro pre x W ⟨hi, hbk⟩ hx
    have hy := run_yield (P := P) (args := encs x) hbk.1 (hps x)
    refine ⟨fn, _, assign, body, hy, roundIn_of_wpIn hfn (hassign _ pre x W _ hi hx ?_)⟩
    intro a' Wa hk1 hp1 hi1 hax
    have hbk1 := hbk.keeps hk1
    have hl1 := heap_lt hbk1.1
    have hbk2 := hbk1.turn { rec0 .ready none with state := .busy }
    refine ⟨_, run_beginRound hbk1.1 rfl, wpIn_mono (hbody _ pre x a' _ (by omega) ⟨_, hbk2.1⟩ (hI.putObj _ hi1 (by omega) hbk1.1 rfl) ((hAx pre x a').putObj (s := ()) _ hax (by omega) hbk1.1 rfl)) ?_⟩
    have hp2 := hKb Wa (.loop { rec0 .ready none with state := .busy })
    intro e a3 W3 hpost
    have fin : ∀ (jump : Option Code), KeepsFrom w.heap.size (Wa.putObj (w.heap.size + 1) (.loop { rec0 .ready none with state := .busy })) W3 →
        (Instr.endRound (w.heap.size + 1) jump).run P W3 = .ok (.bool jump.isNone) (W3.putObj (w.heap.size + 1) (.loop (rec0 (if jump.isNone then .ready else .done) jump))) ∧ Books w { rec0 .ready none with state := .busy } W3 := fun jump hk3 => by
      have hb3 := hbk2.keeps hk3
      exact ⟨run_endRound (P := P) jump hb3.1, hb3⟩
    have stop : ∀ c, KeepsFrom w.heap.size (Wa.putObj (w.heap.size + 1) (.loop { rec0 .ready none with state := .busy })) W3 → Kp (Wa.putObj (w.heap.size + 1) (.loop { rec0 .ready none with state := .busy })) W3 → Ix c (pre ++ [x]) W3 →
        ∃ v w', (Instr.endRound (w.heap.size + 1) (some c)).run P W3 = .ok v w' ∧ ((Ending.returned v = .returned (.bool true) ∧ (I (pre ++ [x]) w' ∧ Books w (rec0 .ready none) w') ∧ Kp W w') ∨ (Ending.returned v = .returned (.bool false) ∧ (∃ c, Ix c (pre ++ [x]) w' ∧ Books w (rec0 .done (some c)) w') ∧ Kp W w')) := fun c hk3 hp3 hi3 => by
      obtain ⟨hr, hb3⟩ := fin (some c) hk3
      exact ⟨_, _, hr, .inr ⟨rfl, ⟨c, (hIx c).putObj _ hi3 (by omega) hb3.1 rfl, hb3.turn _⟩, hKt hp1 (hKt (hKt hp2 hp3) (hKb _ _))⟩⟩
    cases e with
    | normal =>
      obtain ⟨hk3, hp3, hi3⟩ := hpost
      obtain ⟨hr, hb3⟩ := fin none hk3
      exact ⟨_, _, hr, .inl ⟨rfl, ⟨hI.putObj _ hi3 (by omega) hb3.1 rfl, hb3.turn _⟩, hKt hp1 (hKt (hKt hp2 hp3) (hKb _ _))⟩⟩
    | ret => exact stop _ hpost.1 hpost.2.1 hpost.2.2
    | exit id => exact stop _ hpost.1 hpost.2.1 hpost.2.2
    | goto t => exact hpost.elim
    | panic ch => exact hpost.elim
    | outgrown => exact hpost.elim
  · rintro e W2 ⟨⟨v, rfl⟩, (⟨xs, hS, hi, hbk⟩ | ⟨pre, hSp, c, hi, hbk⟩)⟩
    · exact ⟨none, _, run_endLoop (P := P) hbk.1 (by simp [rec0]), hdone _ xs _ (Nat.le_refl _) hS (hI.putObj _ hi (by omega) hbk.1 rfl) ((World.putObj_heap_other (by omega)).trans hbk.2)⟩
    · exact ⟨some c, _, run_endLoop (P := P) hbk.1 (by simp [rec0]), hstop _ c pre _ (Nat.le_refl _) hSp ((hIx c).putObj _ hi (by omega) hbk.1 rfl) ((World.putObj_heap_other (by omega)).trans hbk.2)⟩

/-- the same, where the variable is in no box -/
theorem range_imgs {g : Operand} {ps : Array Tmp} {assign body : Code} {Q : Exit → Act → World → Prop} {a : Act} {w : World}
    {gf : Nat} {lb : Array Value} (hg : a.eval g = .func (.func gf) #[] lb) (eg : ∀ args w, (callFunc gf args).run P w = .ok (.enter gf args) w)
    {encs : α → Array Value} {Kp : World → World → Prop} {S Sp : List α → Prop} {Px : List α → α → World → Prop} (hseq : GivenB (n - 1) P gf lb encs Kp S Sp Px w)
    (hKr : ∀ A : World, Kp A A) (hKt : ∀ {A B C : World}, Kp A B → Kp B C → Kp A C) (hKb : ∀ (W : World) (o' : Obj), Kp W (W.putObj (w.heap.size + 1) o')) (hps : ∀ x, (encs x).size = ps.size)
    (I : List α → World → Prop) (Ix : Code → List α → World → Prop) (a₁ : α → Act) (hI : OwnFrom w.heap.size I) (hIx : ∀ c, OwnFrom w.heap.size (Ix c))
    (hIB : ∀ pre V b j v, w.heap.size ≤ b → I pre V → I pre (V.setCell ⟨b, j, none⟩ v)) (h0 : I [] w)
    (hassign : ∀ (l : Nat) (x : α) (W : World) (K : Act → World → Prop), K (a₁ x) W →
      assign.wpIn (Fence.wide.inRound l) (n - 1 - 1) P (Exit.then K (fun _ _ _ => False)) { tmps := (ps.zip (encs x)).foldl (fun t (p, v) => t.setIfInBounds p v) a.tmps, defers := [] } W)
    (hbody : ∀ (l : Nat) (pre : List α) (x : α) (W : World), w.heap.size ≤ l → I pre W → Px pre x W → body.wpIn (Fence.wide.inRound l) (n - 1 - 1) P (roundPostK w.heap.size Kp I Ix (pre ++ [x]) W) (a₁ x) W)
    (hPx : ∀ pre x a', OwnFrom w.heap.size (fun (_ : Unit) W => a' = a₁ x ∧ Px pre x W))
    (hdone : ∀ (D : Nat) (xs : List α) (W : World), w.heap.size ≤ D → S xs → I xs W → W.heap[D]? = some (.deferred (some [])) → Q .normal { a with defers := { target := .collected D, args := #[] } :: a.defers } W)
    (hstop : ∀ (D : Nat) (c : Code) (pre : List α) (W : World), w.heap.size ≤ D → Sp pre → Ix c pre W → W.heap[D]? = some (.deferred (some [])) → c.wpIn Fence.wide n P Q { a with defers := { target := .collected D, args := #[] } :: a.defers } W) :
    (Code.rangeFunc g ps assign body).wpIn Fence.wide n P Q a w :=
  range_bears hg eg hseq hKt hKb hps I Ix hI hIx hIB h0 (fun pre x a' W => a' = a₁ x ∧ Px pre x W) hPx
    (fun l pre x W K hi hx hK => hassign l x W K (hK _ _ (KeepsFrom.refl _ _) (hKr _) hi ⟨rfl, hx⟩)) (fun l pre x a' W hl hr hi hx => by obtain ⟨rfl, hx⟩ := hx; exact hbody l pre x W hl hi hx) hdone hstop
end
end Go.Proofs.YtmagkcioplcidaeDoor

/- ply: smooth, and Smooth. -/
set_option linter.unusedVariables false
set_option linter.unusedSimpArgs false
namespace Go.Proofs.YtmagkcioplcidaeDoor
open Go.RowKit Go.Shelf
attribute [local go_sem] Oper.semAt_some

set_option maxRecDepth 100000 in
theorem smooth_any (cs ds : List Nat) (w : World) :
    Calls Tryd.prog 26 #[spV cs, spV ds] w fun e w' => e = .returned (.func (.func 40) #[] #[.pointer (some ⟨w.heap.size, 0, none⟩), .pointer (some ⟨w.heap.size + 1, 0, none⟩)]) ∧ SpF w' w.heap.size cs.length (cell cs) ∧ SpF w' (w.heap.size + 1) ds.length (cell ds) ∧ Below w.heap.size w w' ∧ w'.heap.size = w.heap.size + 2 := by
  go_enter Tryd.func26, Tryd.ntmps26
  go_wp2_with fail
  go_ret
  exact ⟨rfl, alloc_old (heap_alloc_new _ _), heap_alloc_at _ _ _ (by simp), ((Below.refl _ _).alloc (Nat.le_refl _) _).alloc (by simp) _, by simp⟩

def imgEnc (x : List Nat) : Array Value := #[imF (cell x)]
def smoothsN (cs ds : List Nat) : List (List Nat) := smL cs ds cs.length []

set_option maxRecDepth 100000 in
set_option maxHeartbeats 1600000 in
theorem smooth1_given (X : Nat → Prop) (cs ds : List Nat) (hc : Codes cs) (hd : Codes ds) (Bx Bz m : Nat) (w : World)
    (hX : ∀ b, X b → b < w.heap.size + 2) (hXx : ¬ X Bx) (hXz : ¬ X Bz) (hBx : SpF w Bx cs.length (cell cs)) (hBz : SpF w Bz ds.length (cell ds)) :
    GivenB m Tryd.prog 40 #[.pointer (some ⟨Bx, 0, none⟩), .pointer (some ⟨Bz, 0, none⟩)] imgEnc (KeepX X) (fun zs => zs = smoothsN cs ds) (fun zs => zs <+: smoothsN cs ds) (fun pre x W => x.length = cs.length ∧ ∀ y ∈ x, y < ds.length) w := by
  intro l J Jx W hW hWs hJ hJx hJB hY h0
  refine CallsIn.any (m := 9) _ ?_
  have hBx1 : SpF W Bx cs.length (cell cs) := (hW.block Bx hBx.lt).trans hBx
  have hBz1 : SpF W Bz ds.length (cell ds) := (hW.block Bz hBz.lt).trans hBz
  refine (callsIn_of_wp Tryd.func40 rfl trivial ?_ rfl)
  simp only [Tryd.ntmps40, List.size_toArray, List.length_cons, List.length_nil, Nat.reduceAdd, Nat.reduceSub, Array.replicate_succ, Array.replicate_zero, List.push_toArray, List.append_toArray, List.nil_append, List.cons_append]
  gi_wp2_with fail
  have hXW : ∀ b, X b → b < W.heap.size := fun b hb => Nat.lt_of_lt_of_le (hX b hb) hWs
  have hYok : YieldI X cs.length ds.length l J Jx := fun pre x W1 h1 h2 => by
    obtain ⟨fn, tmps, ca, bd, h3, h4⟩ := hY pre x W1 h1 h2
    exact ⟨fn, tmps, ca, bd, h3, RoundIn.any 0 h4⟩
  generalize hW2 : World.alloc (World.alloc W _) _ = W2
  have hbW : Below W.heap.size W W2 := by rw [← hW2]; exact ((Below.refl _ _).alloc (Nat.le_refl _) _).alloc (by simp) _
  have hcap : CapsI X cs ds l Bx W.heap.size Bz (W.heap.size + 1) W2 := by
    refine ⟨hBx1.below hbW, ?_, hBz1.below hbW, ?_, hXx, fun h => by have := hXW _ h; omega, hXz, fun h => by have := hXW _ h; omega⟩
    · rw [← hW2]; exact alloc_old (heap_alloc_new _ _)
    · rw [← hW2]; exact heap_alloc_at _ _ _ (by simp)
  clear hW2
  have hj2 : J [] W2 := hJ _ _ _ none h0 (below_grown0 hbW) (fun _ e => by cases e)
  refine ⟨trivial, (CallsIn.any 8 (extend_in X cs ds hc hd l Bx W.heap.size Bz (W.heap.size + 1) W.heap.size hXW J Jx hJ hJB hYok cs.length [] W2 [] (by simp) (by simp) hbW.size hcap hj2)).mono ?_⟩
  rintro e W' ⟨c, rfl, hext⟩
  have HE := Lib.hid hext
  clear hext
  gi_wp2_with fail
  go_end0
  refine ⟨⟨_, rfl⟩, ?_⟩
  cases c
  · obtain ⟨ys, g1, g2⟩ := HE.out.2.2 rfl
    exact .inr ⟨ys, g1, by simpa using g2⟩
  · exact .inl ⟨_, rfl, by simpa [smoothsN] using HE.out.2.1 rfl⟩

theorem smL_len (cs ds : List Nat) : ∀ d l, (smL cs ds d l).length ≤ ds.length ^ d
  | 0, l => by simp [smL]
  | d + 1, l => by
    simp only [smL]
    rw [List.length_flatMap]
    have : ∀ (f : Nat → Nat) (m : Nat), (∀ r, f r ≤ ds.length ^ d) → ((List.range m).map f).sum ≤ m * ds.length ^ d := by
      intro f m hf
      induction m with
      | zero => simp
      | succ m ih => rw [List.range_succ, List.map_append, List.sum_append]; simp only [List.map_cons, List.map_nil, List.sum_cons, List.sum_nil]; have := hf m; rw [Nat.succ_mul]; omega
    refine Nat.le_trans (this _ ds.length (fun r => ?_)) (by rw [Nat.pow_succ, Nat.mul_comm]; exact Nat.le_refl _)
    split
    · exact smL_len cs ds d _
    · simp
theorem smooths_few {cs ds : List Nat} (hc : Codes cs) (hd : Codes ds) : (smoothsN cs ds).length ≤ 46656 := by
  refine Nat.le_trans (smL_len cs ds _ _) ?_
  refine Nat.le_trans (Nat.pow_le_pow_left hd.2.1 _) ?_
  exact Nat.le_trans (Nat.pow_le_pow_right (by omega) hc.2.1) (by decide)
theorem wrap_next {α : Type} (pre : List α) (x : α) : wrap64 (((pre ++ [x]).length : Nat) : Int) = wrap64 (wrap64 pre.length + 1) := by simp only [List.length_append, List.length_singleton]; push_cast; unfold wrap64; omega
theorem wrap64_small {k : Int} (h1 : -9223372036854775808 ≤ k) (h2 : k ≤ 9223372036854775807) : wrap64 k = k := by unfold wrap64; omega

set_option maxRecDepth 100000 in
set_option maxHeartbeats 1600000 in
theorem Smooth_yes (v u : Value) (cs ds : List Nat) (w : World) (hr : Reads w v (ofNats cs)) (hru : Reads w u (ofNats ds)) (hc : Codes cs) (hd : Codes ds) (hsp : spaceB cs = true) (hsq : spaceB ds = true) (hT : Tab w) :
    Calls Tryd.prog 12 #[v, u] w fun e w' => e = .returned (.tuple #[.int .i64 (smoothsN cs ds).length, .int .i64 0]) ∧ Below w.heap.size w w' := by
  have hr0 := hr
  have hru0 := hru
  obtain ⟨a, cap, rfl, _, _, _⟩ := hr.open
  obtain ⟨a2, cap2, rfl, _, _, _⟩ := hru.open
  clear hr hru
  refine (callsIn_wide (n := 20)).1 ?_
  refine callsIn_of_wp_marks Tryd.func12 rfl trivial ?_ rfl
  simp only [Tryd.ntmps12, List.size_toArray, List.length_cons, List.length_nil, Nat.reduceAdd, Nat.reduceSub, Array.replicate_succ, Array.replicate_zero, List.push_toArray, List.append_toArray, List.nil_append, List.cons_append]
  gi_wp2_with fail
  refine ⟨trivial, (callsIn_wide.2 (newSpace_yes _ cs _ hr0 hc hsp hT)).mono ?_⟩
  rintro e w1 ⟨rfl, hb1⟩
  obtain ⟨hs1, hb2⟩ := lay_sp hb1 cs.length (cell cs)
  have hT2 := hT.below hb2
  have hru2 := hru0.below hb2
  gi_wp2_with fail
  generalize hW : World.alloc w1 _ = W at *
  generalize hX : w1.heap.size = Bx at *
  clear hW hX
  refine ⟨trivial, (callsIn_wide.2 (newSpace_yes _ ds _ hru2 hd hsq hT2)).mono ?_⟩
  rintro e w2 ⟨rfl, hb3⟩
  obtain ⟨hs2, hb4⟩ := lay_sp hb3 ds.length (cell ds)
  have hs1' := hs1.below hb4
  have hb5 := below_to hb2 hb2.size hb4
  have hal := (Below.refl _ (w2.alloc (.cells #[.int .i64 ds.length, .int .u64 (cell ds 0), .int .u64 (cell ds 1), .int .u64 (cell ds 2), .int .u64 (cell ds 3), .int .u64 (cell ds 4), .int .u64 (cell ds 5)] 41))).alloc (Nat.le_refl _) (.cells #[.int .i64 0] 3)
  have h1 := hs1'.below hal
  have h2 := hs2.below hal
  have hb6 := below_to hb5 hb5.size hal
  have hbx := hs1'.lt
  have hwx : w.heap.size ≤ w2.heap.size := Nat.le_trans hb2.size hb3.size
  obtain ⟨d0, d1, d2, d3, d4, d5, d6⟩ := h1.cells
  obtain ⟨e0, e1, e2, e3, e4, e5, e6⟩ := h2.cells
  have hn0 : ((w2.alloc (.cells #[.int .i64 ds.length, .int .u64 (cell ds 0), .int .u64 (cell ds 1), .int .u64 (cell ds 2), .int .u64 (cell ds 3), .int .u64 (cell ds 4), .int .u64 (cell ds 5)] 41)).alloc (.cells #[.int .i64 0] 3)).heap[w2.heap.size + 1]? = some (.cells #[.int .i64 0] 3) := heap_alloc_at _ _ _ (by simp)
  have HN0 := Lib.hid hn0
  clear hs1 hb1 hb3 hb4 hb2 hr0 hru0 hru2 hT2 hs1' hs2 h1 h2 hal hn0 hb5
  gi_wp2_with fail
  clear d0 d1 d2 d3 d4 d5 d6 e0 e1 e2 e3 e4 e5 e6
  generalize hW3 : World.alloc (World.alloc w2 _) _ = W3 at *
  have hsz : W3.heap.size = w2.heap.size + 2 := by rw [← hW3]; simp
  clear hW3
  refine ⟨trivial, (callsIn_wide.2 (smooth_any cs ds _)).mono ?_⟩
  rintro e w3 ⟨rfl, h1, h2, h3, h4⟩
  have hn := (h3.block _ (heap_lt HN0.out)).trans HN0.out
  have hbW := below_to hb6 hb6.size h3
  clear HN0
  rw [hsz] at h1 h2 ⊢
  generalize hBn : w2.heap.size = Bn at *
  gi_wp2_with fail
  have hsz3 : w3.heap.size = Bn + 4 := by omega
  have hb0 : w3.heap[Bn + 1]? = some (.cells #[.int .i64 0] 3) := hn
  have hL := smooths_few hc hd
  refine range_imgs (gf := 40) (lb := #[.pointer (some ⟨Bn + 2, 0, none⟩), .pointer (some ⟨Bn + 2 + 1, 0, none⟩)]) rfl (enters_of Tryd.func40 (by kernel_rfl) rfl)
    (smooth1_given (fun b => b = Bn + 1 ∨ b = w3.heap.size ∨ b = w3.heap.size + 1) cs ds hc hd (Bn + 2) (Bn + 2 + 1) _ w3 (by omega) (by omega) (by omega) h1 h2)
    (fun A => KeepX.refl _ _) (fun h k => KeepX.trans h k) (fun W o' => KeepX.putObj (.inr (.inr rfl))) (fun _ => rfl)
    (fun pre W => W.heap[Bn + 1]? = some (.cells #[.int .i64 (wrap64 pre.length)] 3) ∧ Below w.heap.size w W)
    (fun c pre W => False) ?a1 ?hI (fun c s W W' row h _ _ => h) ?hIB ⟨by rw [show wrap64 ((([] : List (List Nat)).length : Nat) : Int) = 0 from wrap64_small (by simp) (by simp)]; exact hb0, hbW⟩
    ?assign ?body (fun pre x a' s W W' row h _ _ => h) ?done ?stop
  case assign =>
    intro l x W K hK
    simp only [imgEnc]
    gi_wp2
    exact hK
  case hI =>
    rintro s W W' row ⟨h1, h2⟩ hg hr
    exact ⟨own_block hg hr (by omega) h1, h2.grown hg h2.size (fun k e => by have := (hr k e).1; omega)⟩
  case hIB =>
    rintro s W b j v hb ⟨h1, h2⟩
    exact ⟨(heap_setCell_other _ _ _ _ (by show Bn + 1 ≠ b; omega)).trans h1, h2.setCell (p := ⟨b, j, none⟩) (by show w.heap.size ≤ b; omega) _⟩
  case body =>
    rintro l pre x W hl ⟨h1, h2⟩ hx
    have c1 := cell_of h1 (j := 0) rfl
    have f1 := free_of h1 0
    gi_wp2
    have hk : KeepsFrom w3.heap.size W (W.setCell ⟨Bn + 1, 0, none⟩ (.int .i64 (wrap64 (wrap64 pre.length + 1)))) := (KeepsOthers.setCell _ _ _).from _
    refine ⟨hk, ⟨by simp, fun b hb hx => ?_⟩, ?_, h2.setCell (p := ⟨Bn + 1, 0, none⟩) (by show w.heap.size ≤ Bn + 1; omega) _⟩
    · exact heap_setCell_other _ _ _ _ (fun e => hx (.inl e))
    · rw [show wrap64 (((pre ++ [x]).length : Nat) : Int) = wrap64 (wrap64 pre.length + 1) from wrap_next pre x]
      exact set_same h1
  case done =>
    rintro D zs W hD rfl ⟨h1, h2⟩ hK
    have hlen : wrap64 (smoothsN cs ds).length = (smoothsN cs ds).length := wrap64_small (by omega) (by omega)
    rw [hlen] at h1
    have c1 := cell_of h1 (j := 0) rfl
    clear hlen
    gi_wp2
    refine ⟨by simp, .inl ⟨_, _, rfl, run_takeDeferred hK, ?_⟩⟩
    refine ⟨_, results_tmp2 rfl _ _ _, rfl, ?_⟩
    exact h2.trans (belowK_b (w := w) (Nat.le_refl _) _ D _ _ (by omega) hK rfl rfl)
  case stop =>
    rintro D c pre W hD hpre h
    exact h.elim
end Go.Proofs.YtmagkcioplcidaeDoor

/- Sums, counts and digits: plain numbers. -/
set_option linter.unusedVariables false
set_option linter.unusedSimpArgs false
namespace Go.Proofs.YtmagkcioplcidaeDoor

def cntTo (f : Nat → Bool) : Nat → Nat
  | 0 => 0
  | n + 1 => cntTo f n + (if f n = true then 1 else 0)
def sN (f : Nat → Nat) : Nat → Nat
  | 0 => 0
  | n + 1 => sN f n + f n
theorem sN_same {f g : Nat → Nat} : ∀ n, (∀ q, q < n → f q = g q) → sN f n = sN g n
  | 0, _ => rfl
  | n + 1, h => by show sN f n + f n = sN g n + g n; rw [sN_same n (fun q hq => h q (by omega)), h n (by omega)]
theorem sN_add (f g : Nat → Nat) : ∀ n, sN (fun q => f q + g q) n = sN f n + sN g n
  | 0 => rfl
  | n + 1 => by show sN (fun q => f q + g q) n + (f n + g n) = (sN f n + f n) + (sN g n + g n); rw [sN_add f g n]; omega
theorem sN_zero : ∀ n, sN (fun _ => 0) n = 0
  | 0 => rfl
  | n + 1 => by show sN (fun _ => 0) n + 0 = 0; rw [sN_zero n]
theorem sN_const (c : Nat) : ∀ n, sN (fun _ => c) n = n * c
  | 0 => by simp [sN]
  | n + 1 => by show sN (fun _ => c) n + c = (n + 1) * c; rw [sN_const c n, Nat.add_mul, Nat.one_mul]
theorem sN_ge {f : Nat → Nat} : ∀ n, (∀ q, q < n → 1 ≤ f q) → n ≤ sN f n
  | 0, _ => Nat.zero_le _
  | n + 1, h => by show n + 1 ≤ sN f n + f n; have h1 := sN_ge n (fun q hq => h q (by omega)); have h2 := h n (by omega); omega
theorem cnt_same {f g : Nat → Bool} : ∀ n, (∀ q, q < n → f q = g q) → cntTo f n = cntTo g n
  | 0, _ => rfl
  | n + 1, h => by show cntTo f n + (if f n = true then 1 else 0) = cntTo g n + (if g n = true then 1 else 0); rw [cnt_same n (fun q hq => h q (by omega)), h n (by omega)]
theorem cnt_false : ∀ n, cntTo (fun _ => false) n = 0
  | 0 => rfl
  | n + 1 => by show cntTo (fun _ => false) n + 0 = 0; rw [cnt_false n]
theorem cnt_le (f : Nat → Bool) : ∀ n, cntTo f n ≤ n
  | 0 => Nat.le_refl _
  | n + 1 => by
    show cntTo f n + (if f n = true then 1 else 0) ≤ n + 1
    have := cnt_le f n
    split <;> omega
theorem cnt_add (f : Nat → Bool) (a : Nat) : ∀ m, cntTo f (a + m) = cntTo f a + sN (fun q => if f (a + q) = true then 1 else 0) m
  | 0 => rfl
  | m + 1 => by
    show cntTo f (a + m) + (if f (a + m) = true then 1 else 0) = cntTo f a + (sN (fun q => if f (a + q) = true then 1 else 0) m + (if f (a + m) = true then 1 else 0))
    rw [cnt_add f a m]; omega
theorem cnt_mul (f : Nat → Bool) (m : Nat) : ∀ M, cntTo f (m * M) = sN (fun q => cntTo (fun y => f (q + m * y)) M) m
  | 0 => by
    rw [Nat.mul_zero]
    show 0 = sN (fun _ => 0) m
    rw [sN_zero]
  | M + 1 => by
    rw [Nat.mul_succ, cnt_add, cnt_mul f m M]
    show _ = sN (fun q => cntTo (fun y => f (q + m * y)) M + (if f (q + m * M) = true then 1 else 0)) m
    rw [sN_add]
    congr 1
    exact sN_same m fun q _ => by rw [Nat.add_comm]
theorem flat_len {α : Type} (F : Nat → List α) : ∀ m, ((List.range m).flatMap F).length = sN (fun q => (F q).length) m
  | 0 => rfl
  | m + 1 => by
    rw [List.range_succ, List.flatMap_append, List.length_append, flat_len F m]
    simp [sN]

def digits (m : Nat) : Nat → Nat → List Nat
  | 0, _ => []
  | d + 1, x => x % m :: digits m d (x / m)
theorem digits_len (m : Nat) : ∀ d x, (digits m d x).length = d
  | 0, _ => rfl
  | d + 1, x => by simp [digits, digits_len m d]
theorem digits_lt {m : Nat} (hm : 0 < m) : ∀ d x q, q ∈ digits m d x → q < m
  | 0, _, q, h => by simp [digits] at h
  | d + 1, x, q, h => by
    rcases List.mem_cons.1 h with rfl | h
    · exact Nat.mod_lt _ hm
    · exact digits_lt hm d _ q h
theorem digits_snoc (m : Nat) : ∀ d x, digits m (d + 1) x = digits m d x ++ [x / m ^ d % m]
  | 0, x => by simp [digits]
  | d + 1, x => by
    show x % m :: digits m (d + 1) (x / m) = (x % m :: digits m d (x / m)) ++ [x / m ^ (d + 1) % m]
    rw [digits_snoc m d, List.cons_append, Nat.div_div_eq_div_mul, Nat.pow_succ, Nat.mul_comm (m ^ d)]
end Go.Proofs.YtmagkcioplcidaeDoor

/- The smooth maps are as many as the numbers whose digits are a smooth map: plain numbers. -/
set_option linter.unusedVariables false
set_option linter.unusedSimpArgs false
namespace Go.Proofs.YtmagkcioplcidaeDoor

def fitAll (cs ds : List Nat) : List Nat → List Nat → Bool
  | _, [] => true
  | l, q :: r => fitB cs ds l q && fitAll cs ds (l ++ [q]) r
theorem smL_succ (cs ds : List Nat) (d : Nat) (l : List Nat) : (smL cs ds (d + 1) l).length = sN (fun q => if fitB cs ds l q = true then (smL cs ds d (l ++ [q])).length else 0) ds.length := by
  show ((List.range ds.length).flatMap _).length = _
  rw [flat_len]
  exact sN_same _ fun q _ => by split <;> rfl
theorem smL_count {cs ds : List Nat} (hm : 0 < ds.length) : ∀ d l, (smL cs ds d l).length = cntTo (fun x => fitAll cs ds l (digits ds.length d x)) (ds.length ^ d)
  | 0, l => rfl
  | d + 1, l => by
    rw [smL_succ, Nat.pow_succ, Nat.mul_comm, cnt_mul]
    refine sN_same _ fun q hq => ?_
    have h : ∀ y, fitAll cs ds l (digits ds.length (d + 1) (q + ds.length * y)) = (fitB cs ds l q && fitAll cs ds (l ++ [q]) (digits ds.length d y)) := fun y => by
      show (fitB cs ds l ((q + ds.length * y) % ds.length) && fitAll cs ds (l ++ [(q + ds.length * y) % ds.length]) (digits ds.length d ((q + ds.length * y) / ds.length))) = _
      rw [Nat.add_mul_mod_self_left, Nat.mod_eq_of_lt hq, Nat.add_mul_div_left _ _ hm, Nat.div_eq_of_lt hq, Nat.zero_add]
    rw [cnt_same _ (fun y _ => h y)]
    rcases hb : fitB cs ds l q with _ | _
    · simp only [Bool.false_and]; rw [cnt_false]; rfl
    · simp only [Bool.true_and]; rw [if_pos trivial, smL_count hm d]

/-- a map is smooth -/
def smoothB (cs ds f : List Nat) : Bool := (List.range cs.length).all fun q => (List.range cs.length).all fun p => !(cell cs q).testBit p || (cell ds (cell f q)).testBit (cell f p)
theorem smooth_iff {cs ds f : List Nat} : smoothB cs ds f = true ↔ ∀ q p, q < cs.length → p < cs.length → (cell cs q).testBit p = true → (cell ds (cell f q)).testBit (cell f p) = true := by
  unfold smoothB
  simp only [List.all_eq_true, List.mem_range, Bool.or_eq_true, Bool.not_eq_true']
  constructor
  · intro h q p hq hp hb
    rcases h q hq p hp with h2 | h2
    · rw [h2] at hb; cases hb
    · exact h2
  · intro h q hq p hp
    rcases hb : (cell cs q).testBit p with _ | _
    · exact .inl rfl
    · exact .inr (h q p hq hp hb)
theorem fitTo_iff {cs ds : List Nat} {p : Nat} {g : Nat → Nat} {q : Nat} : ∀ k, fitTo cs ds p g q k = true ↔ ∀ o, o < k → fit1 cs ds p g q o = true
  | 0 => by simp [fitTo]
  | k + 1 => by
    show (fitTo cs ds p g q k && fit1 cs ds p g q k) = true ↔ _
    rw [Bool.and_eq_true, fitTo_iff k]
    constructor
    · rintro ⟨h1, h2⟩ o ho
      by_cases e : o = k
      · subst e; exact h2
      · exact h1 o (by omega)
    · exact fun h => ⟨fun o ho => h o (by omega), h k (by omega)⟩
theorem cell_app_left {l r : List Nat} {j : Nat} (h : j < l.length) : cell (l ++ r) j = cell l j := by
  unfold cell; simp [List.getElem?_append_left h]
theorem cell_app_mid (l : List Nat) (q : Nat) (r : List Nat) : cell (l ++ q :: r) l.length = q := by
  unfold cell; simp
theorem fitAll_iff {cs ds : List Nat} : ∀ (r l : List Nat), fitAll cs ds l r = true ↔ ∀ p, l.length ≤ p → p < l.length + r.length → ∀ o, o < p → fit1 cs ds p (cell (l ++ r)) (cell (l ++ r) p) o = true
  | [], l => by simp [fitAll]; omega
  | q :: r, l => by
    show (fitB cs ds l q && fitAll cs ds (l ++ [q]) r) = true ↔ _
    rw [Bool.and_eq_true, fitAll_iff r (l ++ [q])]
    unfold fitB
    rw [fitTo_iff]
    have e : l ++ [q] ++ r = l ++ q :: r := by simp
    rw [e]
    have h1 : ∀ o, o < l.length → (fit1 cs ds l.length (cell (l ++ [q])) q o = fit1 cs ds l.length (cell (l ++ q :: r)) q o) := fun o ho => by
      unfold fit1; rw [cell_app_left ho, cell_app_left ho]
    constructor
    · rintro ⟨h2, h3⟩ p hp hpl o ho
      by_cases e2 : p = l.length
      · subst e2; rw [cell_app_mid, ← h1 o ho]; exact h2 o ho
      · exact h3 p (by simp; omega) (by simp at hpl ⊢; omega) o ho
    · intro h
      refine ⟨fun o ho => ?_, fun p hp hpl o ho => h p (by simp at hp; omega) (by simp at hpl ⊢; omega) o ho⟩
      have := h l.length (Nat.le_refl _) (by simp) o ho
      rw [cell_app_mid] at this
      rw [h1 o ho]; exact this
theorem fitAll_smooth {cs ds : List Nat} (hs : spaceB ds = true) {f : List Nat} (hl : f.length = cs.length) (hf : ∀ p, p < cs.length → cell f p < ds.length) : fitAll cs ds [] f = smoothB cs ds f := by
  rw [Bool.eq_iff_iff, fitAll_iff, smooth_iff]
  simp only [List.nil_append, List.length_nil, Nat.zero_add, Nat.zero_le, true_implies]
  have e1 : ∀ p o, fit1 cs ds p (cell f) (cell f p) o = true ↔ ((cell cs p).testBit o = true → (cell ds (cell f p)).testBit (cell f o) = true) ∧ ((cell cs o).testBit p = true → (cell ds (cell f o)).testBit (cell f p) = true) := fun p o => by
    unfold fit1
    cases (cell cs p).testBit o <;> cases (cell cs o).testBit p <;> simp
  constructor
  · intro h q p hq hp hb
    by_cases h1 : q = p
    · subst h1; exact (space_iff.1 hs _ (hf q hq)).1
    · by_cases h2 : p < q
      · exact ((e1 q p).1 (h q (by omega) p h2)).1 hb
      · exact ((e1 p q).1 (h p (by omega) q (by omega))).2 hb
  · intro h p hp o ho
    rw [e1]
    exact ⟨h p o (by omega) (by omega), h o p (by omega) (by omega)⟩
theorem cell_lt {f : List Nat} {m p : Nat} (h : ∀ x ∈ f, x < m) (hp : p < f.length) : cell f p < m := by
  unfold cell
  rw [List.getD_eq_getElem?_getD, List.getElem?_eq_getElem hp]
  exact h _ (List.getElem_mem hp)
/-- as many as the reference counts -/
theorem smooths_count {cs ds : List Nat} (hd : Codes ds) (hs : spaceB ds = true) : (smoothsN cs ds).length = cntTo (fun x => smoothB cs ds (digits ds.length cs.length x)) (ds.length ^ cs.length) := by
  unfold smoothsN
  have hm : 0 < ds.length := by have := hd.1; omega
  rw [smL_count hm]
  refine cnt_same _ fun x _ => fitAll_smooth hs (digits_len _ _ _) fun p hp => ?_
  exact cell_lt (digits_lt hm _ _) (by rw [digits_len]; exact hp)

/-! ### every map is smooth -/
theorem smL_all {cs ds : List Nat} {n : Nat} (h : ∀ l q, (∀ x ∈ l, x < ds.length) → q < ds.length → l.length < n → fitB cs ds l q = true) : ∀ d l, (∀ x ∈ l, x < ds.length) → l.length + d = n → (smL cs ds d l).length = ds.length ^ d
  | 0, l, _, _ => rfl
  | d + 1, l, hl, hn => by
    rw [smL_succ, sN_same (g := fun _ => ds.length ^ d) _ (fun q hq => ?_), sN_const, Nat.pow_succ, Nat.mul_comm]
    show (if fitB cs ds l q = true then (smL cs ds d (l ++ [q])).length else 0) = ds.length ^ d
    rw [if_pos (h l q hl hq (by omega))]
    refine smL_all h d _ (fun x hx => ?_) (by simp; omega)
    rcases List.mem_append.1 hx with h1 | h1
    · exact hl x h1
    · rw [List.mem_singleton.1 h1]; exact hq
theorem fitB_iff {cs ds l : List Nat} {q : Nat} : fitB cs ds l q = true ↔ ∀ o, o < l.length → ((cell cs l.length).testBit o = true → (cell ds q).testBit (cell l o) = true) ∧ ((cell cs o).testBit l.length = true → (cell ds (cell l o)).testBit q = true) := by
  unfold fitB
  rw [fitTo_iff]
  have e : ∀ o, o < l.length → (fit1 cs ds l.length (cell (l ++ [q])) q o = true ↔ ((cell cs l.length).testBit o = true → (cell ds q).testBit (cell l o) = true) ∧ ((cell cs o).testBit l.length = true → (cell ds (cell l o)).testBit q = true)) := fun o ho => by
    unfold fit1
    rw [cell_app_left ho]
    cases (cell cs l.length).testBit o <;> cases (cell cs o).testBit l.length <;> simp
  exact ⟨fun h o ho => (e o ho).1 (h o ho), fun h o ho => (e o ho).2 (h o ho)⟩
/-- all points of the second space are alike -/
theorem smooths_alike {cs ds : List Nat} (h : ∀ p q, p < ds.length → q < ds.length → (cell ds p).testBit q = true) : (smoothsN cs ds).length = ds.length ^ cs.length :=
  smL_all (n := cs.length) (fun l q hl hq _ => fitB_iff.2 fun o ho => ⟨fun _ => h _ _ hq (cell_lt hl ho), fun _ => h _ _ (cell_lt hl ho) hq⟩) _ _ (by simp) (by simp)
/-- all cells of the first space have one point -/
theorem smooths_single {cs ds : List Nat} (h : ∀ p q, p < cs.length → (cell cs p).testBit q = true → p = q) : (smoothsN cs ds).length = ds.length ^ cs.length :=
  smL_all (n := cs.length) (fun l q hl hq hn => fitB_iff.2 fun o ho => ⟨fun hb => by have := h _ _ hn hb; omega, fun hb => by have := h _ _ (show o < cs.length by omega) hb; omega⟩) _ _ (by simp) (by simp)
theorem smL_const {cs : List Nat} (hs : spaceB cs = true) {q : Nat} (hq : q < cs.length) : ∀ d l, (∀ o, o < l.length → cell l o = q) → 1 ≤ (smL cs cs d l).length
  | 0, l, _ => Nat.le_refl _
  | d + 1, l, h => by
    have h1 : fitB cs cs l q = true := fitB_iff.2 fun o ho => by
      rw [h o ho]
      exact ⟨fun _ => (space_iff.1 hs q hq).1, fun _ => (space_iff.1 hs q hq).1⟩
    have h2 := smL_const hs hq d (l ++ [q]) (fun o ho => by
      by_cases e : o < l.length
      · rw [cell_app_left e]; exact h o e
      · obtain rfl : o = l.length := by simp at ho; omega
        exact cell_app_mid l q [])
    rw [smL_succ]
    have h3 : ∀ m, q < m → 1 ≤ sN (fun q => if fitB cs cs l q = true then (smL cs cs d (l ++ [q])).length else 0) m := by
      intro m
      induction m with
      | zero => intro h; omega
      | succ m ih =>
        intro hm
        show 1 ≤ sN (fun q => if fitB cs cs l q = true then (smL cs cs d (l ++ [q])).length else 0) m + (if fitB cs cs l m = true then (smL cs cs d (l ++ [m])).length else 0)
        by_cases e : q = m
        · subst e; rw [if_pos h1]; omega
        · have := ih (by omega); omega
    exact h3 _ hq
/-- the maps that take all points to one -/
theorem smooths_self {cs : List Nat} (hc : Codes cs) (hs : spaceB cs = true) : cs.length ≤ (smoothsN cs cs).length := by
  unfold smoothsN
  obtain ⟨d, hd⟩ : ∃ d, cs.length = d + 1 := ⟨cs.length - 1, by have := hc.1; omega⟩
  have h0 : (smL cs cs cs.length []).length = (smL cs cs (d + 1) []).length := by rw [hd]
  rw [h0, smL_succ]
  refine sN_ge _ fun q hq => ?_
  have h1 : fitB cs cs [] q = true := fitB_iff.2 fun o ho => by simp at ho
  rw [if_pos h1]
  exact smL_const hs hq d _ (fun o ho => by
    obtain rfl : o = 0 := by simp at ho; omega
    rfl)
end Go.Proofs.YtmagkcioplcidaeDoor

/- ply: moved: a space whose points are moved by a map. -/
set_option linter.unusedVariables false
set_option linter.unusedSimpArgs false
namespace Go.Proofs.YtmagkcioplcidaeDoor
open Go.RowKit Go.Shelf
attribute [local go_sem] Oper.semAt_some

/-- the images of points -/
def imgL (f : Nat → Nat) (pre : List Nat) : Nat := pre.foldl (fun o q => o ||| 2 ^ f q) 0
theorem imgL_snoc (f : Nat → Nat) (pre : List Nat) (q : Nat) : imgL f (pre ++ [q]) = imgL f pre ||| 2 ^ f q := by
  unfold imgL; rw [List.foldl_append]; rfl
/-- the cells so far -/
def mvTo (cs : List Nat) (f : Nat → Nat) : Nat → Nat → Nat
  | 0, _ => 0
  | p + 1, j => if j = f p then mvTo cs f p j ||| imgL f (bitsOf (cell cs p)) else mvTo cs f p j
def mvMid (cs : List Nat) (f : Nat → Nat) (p : Nat) (pre : List Nat) (j : Nat) : Nat := if j = f p then mvTo cs f p j ||| imgL f pre else mvTo cs f p j
theorem mvMid_nil (cs : List Nat) (f : Nat → Nat) (p j : Nat) : mvMid cs f p [] j = mvTo cs f p j := by unfold mvMid imgL; simp
theorem mvMid_snoc (cs : List Nat) (f : Nat → Nat) (p : Nat) (pre : List Nat) (q j : Nat) : mvMid cs f p (pre ++ [q]) j = if j = f p then mvMid cs f p pre (f p) ||| 2 ^ f q else mvMid cs f p pre j := by
  unfold mvMid
  rw [imgL_snoc]
  by_cases h : j = f p
  · subst h; rw [if_pos rfl, if_pos rfl, if_pos rfl, Nat.or_assoc]
  · rw [if_neg h, if_neg h, if_neg h]
theorem mvMid_all (cs : List Nat) (f : Nat → Nat) (p j : Nat) : mvMid cs f p (bitsOf (cell cs p)) j = mvTo cs f (p + 1) j := rfl
theorem imgL_lt {f : Nat → Nat} (hf : ∀ q, f q < 6) : ∀ pre : List Nat, ∀ o, o < 64 → pre.foldl (fun o q => o ||| 2 ^ f q) o < 64
  | [], o, h => h
  | q :: pre, o, h => imgL_lt hf pre _ (or_lt (k := 6) h (pow_lt64 (hf q)))
theorem mvTo_lt {cs : List Nat} {f : Nat → Nat} (hf : ∀ q, f q < 6) : ∀ p j, mvTo cs f p j < 64
  | 0, j => by simp [mvTo]
  | p + 1, j => by
    unfold mvTo
    split
    · exact or_lt (k := 6) (mvTo_lt hf p j) (imgL_lt hf _ 0 (by decide))
    · exact mvTo_lt hf p j
theorem mvMid_lt {cs : List Nat} {f : Nat → Nat} (hf : ∀ q, f q < 6) (p : Nat) (pre : List Nat) (j : Nat) : mvMid cs f p pre j < 64 := by
  unfold mvMid
  split
  · exact or_lt (k := 6) (mvTo_lt hf p j) (imgL_lt hf _ 0 (by decide))
  · exact mvTo_lt hf p j

structure MovI (cs : List Nat) (f : Nat → Nat) (H : Nat) (w0 : World) (w : World) (c : Nat → Nat) : Prop where
  x : SpF w H cs.length (cell cs)
  im : ImF w (H + 1) f
  r : SpF w (H + 2) 0 (fun _ => 0)
  o : SpF w (H + 3) cs.length c
  b : Below w0.heap.size w0 w
theorem MovI.to {cs : List Nat} {f c : Nat → Nat} {H : Nat} {w0 w w' : World} (h : MovI cs f H w0 w c) (hb : Below w.heap.size w w') : MovI cs f H w0 w' c := ⟨h.x.below hb, h.im.below hb, h.r.below hb, h.o.below hb, below_to h.b h.b.size hb⟩
theorem MovI.grown {cs : List Nat} {f c : Nat → Nat} {H B : Nat} {w0 W W' : World} {row : Option Nat} (h : MovI cs f H w0 W c) (hH : H = w0.heap.size) (hB : H + 3 < B) (hg : W.grownBy W' row) (hr : ∀ r, row = some r → B ≤ r ∧ ∃ o : Obj, W.heap[r]? = some o ∧ o.isCells = false) : MovI cs f H w0 W' c :=
  ⟨own_block hg hr (by omega) h.x, own_block hg hr (by omega) h.im, own_block hg hr (by omega) h.r, own_block hg hr (by omega) h.o, h.b.grown hg h.b.size (fun k e => by have := (hr k e).1; omega)⟩
theorem MovI.other {cs : List Nat} {f c : Nat → Nat} {H b j : Nat} {w0 W : World} (h : MovI cs f H w0 W c) (hH : H = w0.heap.size) (hb : H + 3 < b) (v : Value) : MovI cs f H w0 (W.setCell ⟨b, j, none⟩ v) c :=
  ⟨h.x.other (by omega), (heap_setCell_other _ _ _ _ (by show H + 1 ≠ b; omega)).trans h.im, h.r.other (by omega), h.o.other (by omega), h.b.setCell (p := ⟨b, j, none⟩) (by show w0.heap.size ≤ b; omega) _⟩
theorem MovI.put {cs : List Nat} {f c c' : Nat → Nat} {H k v : Nat} {w0 W : World} (h : MovI cs f H w0 W c) (hH : H = w0.heap.size) (hk : k < 6) (hc : ∀ j, c' j = if j = k then v else c j) : MovI cs f H w0 (W.setCell ⟨H + 3, 1 + k, none⟩ (.int .u64 v)) c' :=
  ⟨h.x.other (by omega), (heap_setCell_other _ _ _ _ (by show H + 1 ≠ H + 3; omega)).trans h.im, h.r.other (by omega), h.o.set hk (fun j _ => hc j), h.b.setCell (p := ⟨H + 3, 1 + k, none⟩) (by show w0.heap.size ≤ H + 3; omega) _⟩

set_option maxRecDepth 100000 in
set_option maxHeartbeats 1600000 in
theorem moved_any (cs : List Nat) (f : Nat → Nat) (w : World) (hc : Codes cs) (hf : ∀ q, f q < 6) (hT : Tab w) :
    Calls Tryd.prog 27 #[spV cs, imF f] w fun e w' => e = .returned (spF cs.length (mvTo cs f cs.length)) ∧ Below w.heap.size w w' := by
  have hc64 := cell_64 hc
  have HC := Lib.hid hc64
  have HCN := Lib.hid hc.2.2
  have HF := Lib.hid hf
  have hn6 := hc.2.1
  clear hc64 hc hf
  refine (callsIn_wide (n := 20)).1 ?_
  refine callsIn_of_wp_marks Tryd.func27 rfl trivial ?_ rfl
  simp only [Tryd.ntmps27, List.size_toArray, List.length_cons, List.length_nil, Nat.reduceAdd, Nat.reduceSub, Array.replicate_succ, Array.replicate_zero, List.push_toArray, List.append_toArray, List.nil_append, List.cons_append]
  gi_wp2_with fail
  generalize hW0 : World.alloc (World.alloc (World.alloc (World.alloc w _) _) _) _ = W0
  have HM0 : Hid (MovI cs f w.heap.size w W0 (mvTo cs f 0)) := Lib.hid (by
    rw [← hW0]
    exact ⟨alloc_old (alloc_old (alloc_old (heap_alloc_new _ _))), alloc_old (alloc_old (heap_alloc_at _ _ _ (by simp))), alloc_old (heap_alloc_at _ _ _ (by simp)), heap_alloc_at _ _ _ (by simp), ((((Below.refl _ _).alloc (Nat.le_refl _) _).alloc (by simp) _).alloc (by simp <;> omega) _).alloc (by simp <;> omega) _⟩)
  clear hW0
  refine wpIn_loop (fun a' w' => ∃ (p : Nat) (u6 u7 u8 u9 u10 u11 u14 u15 u16 u17 u18 u19 u20 u21 u22 u23 u24 u25 u26 u27 u28 u29 u30 u31 u32 u33 u34 u35 u36 : Value) (ds : List Deferred), p ≤ cs.length ∧ MovI cs f w.heap.size w w' (mvTo cs f p) ∧ Marks w.heap.size w'.heap.size ds w' ∧ a' = { tmps := #[spV cs, imF f, .pointer (some ⟨w.heap.size, 0, none⟩), .pointer (some ⟨w.heap.size + 1, 0, none⟩), .pointer (some ⟨w.heap.size + 1 + 1, 0, none⟩), .pointer (some ⟨w.heap.size + 1 + 1 + 1, 0, none⟩), u6, u7, u8, u9, u10, u11, .int .i64 cs.length, .int .i64 p, u14, u15, u16, u17, u18, u19, u20, u21, u22, u23, u24, u25, u26, u27, u28, u29, u30, u31, u32, u33, u34, u35, u36], defers := ds }) (fun a' _ => cs.length - (intOf (a'.tmps.getD 13 undef)).toNat) ⟨0, _, _, _, _, _, _, _, _, _, _, _, _, _, _, _, _, _, _, _, _, _, _, _, _, _, _, _, _, _, [], by omega, HM0.out, trivial, rfl⟩ ?_
  rintro a' W ⟨p, u6, u7, u8, u9, u10, u11, u14, u15, u16, u17, u18, u19, u20, u21, u22, u23, u24, u25, u26, u27, u28, u29, u30, u31, u32, u33, u34, u35, u36, ds, hp, hmv, hmk, rfl⟩
  have HMV := Lib.hid hmv
  have HMK := Lib.hid hmk
  clear hmv hmk HM0
  by_cases hlt : p < cs.length
  · have k0 : (0 : Int) ≤ (p : Int) := by omega
    have k1 : (p : Int) < (cs.length : Int) := by omega
    have k6 : (p : Int) < 6 := by omega
    have hc1 := HC.out p
    have q1 := HMV.out.x.cell (p := p) (by omega)
    have hal : Below W.heap.size W (W.alloc (.cells #[.int .i64 p] 3)) := (Below.refl _ _).alloc (Nat.le_refl _) _
    have q1' := (hal.cell (p := ⟨w.heap.size, 1 + p, none⟩) HMV.out.x.lt).trans q1
    have hH4 : w.heap.size + 3 < W.heap.size := HMV.out.o.lt
    gi_wp2_with fail
    refine ⟨trivial, (callsIn_wide.2 (points_any (cell cs p) _)).mono ?_⟩
    rintro e w1 ⟨rfl, rfl⟩
    have hal2 : Below W.heap.size W ((W.alloc (.cells #[.int .i64 p] 3)).alloc (.cells #[.int .u64 (cell cs p)] 38)) := hal.alloc (by simp) _
    have hp0 : ((W.alloc (.cells #[.int .i64 p] 3)).alloc (.cells #[.int .u64 (cell cs p)] 38)).heap[W.heap.size]? = some (.cells #[.int .i64 p] 3) := alloc_old (heap_alloc_new _ _)
    have hBs : ((W.alloc (.cells #[.int .i64 p] 3)).alloc (.cells #[.int .u64 (cell cs p)] 38)).heap[W.heap.size + 1]? = some (.cells #[.int .u64 (cell cs p)] 38) := heap_alloc_at _ _ _ (by simp)
    have hsz3 : ((W.alloc (.cells #[.int .i64 p] 3)).alloc (.cells #[.int .u64 (cell cs p)] 38)).heap.size = W.heap.size + 2 := by simp
    have HM3 := Lib.hid (HMV.out.to hal2)
    have HK3 := Lib.hid (HMK.out.below hal2)
    clear q1 q1' hal hal2
    gi_wp2_with fail
    generalize hW3 : World.alloc (World.alloc W _) _ = W3 at *
    clear hW3
    generalize hB : W.heap.size = B at *
    refine range_pts (gf := 48) (Bs := B + 1) (s := cell cs p) rfl (enters_of Tryd.func48 (by kernel_rfl) rfl)
      (points_given (cell cs p) (B + 1) hc1 19 (by omega) W3 (by omega)) hBs rfl
      (fun pre V => MovI cs f w.heap.size w V (mvMid cs f p pre) ∧ V.heap[B]? = some (.cells #[.int .i64 p] 3) ∧ Marks w.heap.size B ds V)
      (fun c pre W => False) ?a1 ?hI (fun c s W W' row h _ _ => h) ?hIB (fun pre V h => hT.below h.1.b) ⟨by rw [show mvMid cs f p [] = mvTo cs f p from funext (mvMid_nil cs f p)]; exact HM3.out, hp0, HK3.out⟩ ?assign ?body ?done ?stop
    case assign =>
      intro l x W K hK
      gi_wp2
      exact hK
    case hI =>
      rintro s V V' row ⟨h1, h2, h3⟩ hg hr
      exact ⟨h1.grown rfl (B := W3.heap.size) (by omega) hg hr, own_block hg hr (by omega) h2, h3.grown hg (fun k e => by have := (hr k e).1; omega)⟩
    case hIB =>
      rintro s V v ⟨h1, h2, h3⟩
      exact ⟨h1.other rfl (by omega) _, set_other h2 (by omega), h3.setCell _ _ _⟩
    case body =>
      rintro l pre x V hl ⟨h1, h2, h3⟩ hpx
      obtain ⟨hxb, hx6⟩ := pre_bit hc1 hpx
      have fp6 := HF.out p
      have fx6 := HF.out x
      have c6 := cell_of h2 (j := 0) rfl
      have i1 := h1.im.cell (p := p) (by omega)
      have i2 := h1.im.cell hx6
      have o1 := h1.o.cell fp6
      have g1 := h1.o.free (1 + f p)
      have x0 : (0 : Int) ≤ (x : Int) := by omega
      have x1 : (x : Int) < 6 := by omega
      have y0 : (0 : Int) ≤ (f p : Int) := by omega
      have y1 : (f p : Int) < 6 := by omega
      have hml := mvMid_lt (cs := cs) HF.out p pre (f p)
      have hsh := shl_num (f x) fx6
      have hor : bits .or .u64 (mvMid cs f p pre (f p) : Int) ((2 : Int) ^ f x) = ((mvMid cs f p pre (f p) ||| 2 ^ f x : Nat) : Int) := by
        have := u64_or (mvMid cs f p pre (f p)) (2 ^ f x) (by omega) (by have := pow_lt64 fx6; omega)
        rwa [show (((2 ^ f x : Nat) : Int)) = (2 : Int) ^ f x by push_cast; rfl] at this
      have HH1 := Lib.hid h1
      have HH2 := Lib.hid h2
      have HH3 := Lib.hid h3
      have HSN := Lib.hid (mvMid_snoc cs f p pre x)
      clear h1 h2 h3 hpx hxb
      generalize mvMid cs f p pre (f p) = M at *
      gi_wp2_with fail
      refine region_then 13 rfl rfl rfl (by kernel_rfl) (by kernel_rfl) (by kernel_rfl) (by kernel_rfl) (by kernel_rfl) (by kernel_rfl) ?_
      dsimp only [List.dropLast]
      repeat (gi_big_quiet_step (fail))
      refine wpQuietIn_nil ?_
      intro _ hw'
      obtain ⟨nq, hw''⟩ := hw'
      subst hw''
      go_simp
      go_at_K
      gi_wp2_with fail
      refine ⟨(keeps_drewN _ V _).trans (keeps_set _ _ _ _ _), (heap_setCell_other _ _ _ _ (by show B + 1 ≠ w.heap.size + 3; omega)).trans (heap_drewN _ _ _), (HH1.out.to (below_drewN _ _)).put rfl fp6 HSN.out, (heap_setCell_other _ _ _ _ (by show B ≠ w.heap.size + 3; omega)).trans ((heap_drewN _ _ _).trans HH2.out), (HH3.out.below (below_drewN _ _)).setCell _ _ _⟩
    case done =>
      rintro D V hD ⟨h1, h2, h3⟩ hK
      have hm2 := h3.add (D := D) (by omega) (by omega) hK
      have hm3 : Marks w.heap.size V.heap.size ({ target := .collected D, args := #[] } :: ds) V := hm2.mono (by have := heap_lt hK; omega)
      rw [show mvMid cs f p (bitsOf (cell cs p)) = mvTo cs f (p + 1) from funext (mvMid_all cs f p)] at h1
      have H1 := Lib.hid h1
      have H5 := Lib.hid hm3
      clear h1 h2 h3 hm2 hm3
      gi_wp2_with fail
      refine ⟨⟨p + 1, _, _, _, _, _, _, _, _, _, _, _, _, _, _, _, _, _, _, _, _, _, _, _, _, _, _, _, _, _, _, by omega, H1.out, H5.out, by go_num⟩, ?_⟩
      simp [intOf]; omega
    case stop =>
      rintro D c pre W hD hpre h
      exact h.elim
  · have hks : p = cs.length := by omega
    subst hks
    obtain ⟨G, hG⟩ : ∃ G, mvTo cs f cs.length = G := ⟨_, rfl⟩
    rw [hG] at HMV
    have HG := Lib.hid hG
    clear hG
    obtain ⟨d0, d1, d2, d3, d4, d5, d6⟩ := HMV.out.o.cells
    obtain ⟨e0, e1, e2, e3, e4, e5, e6⟩ := HMV.out.r.cells
    have fz := HMV.out.r.free
    gi_wp2_with fail
    refine leave_marks ds W.heap.size _ (((((((HMK.out.setCell _ _ _).setCell _ _ _).setCell _ _ _).setCell _ _ _).setCell _ _ _).setCell _ _ _).setCell _ _ _) fun w' hs => ?_
    have s5 := SpF.store (n' := cs.length) G HMV.out.r
    have hb5 := HMV.out.b.set7 (b := w.heap.size + 2) (by omega) (.int .i64 cs.length) (.int .u64 (G 0)) (.int .u64 (G 1)) (.int .u64 (G 2)) (.int .u64 (G 3)) (.int .u64 (G 4)) (.int .u64 (G 5))
    have s6 : SpF w' (w.heap.size + 2) cs.length G := hs.keep _ _ _ _ s5
    refine ⟨_, results_sp rfl rfl s6.load, by rw [HG.out], hb5.trans hs.below⟩
end Go.Proofs.YtmagkcioplcidaeDoor

/- The first map by which two spaces are the same, in two ways: plain numbers. -/
set_option linter.unusedVariables false
set_option linter.unusedSimpArgs false
namespace Go.Proofs.YtmagkcioplcidaeDoor

/-! ### a map of n points that takes different ones to different ones takes one to each -/
theorem pigeon : ∀ (n : Nat) (f : Nat → Nat), (∀ i, i < n → f i < n) → (∀ i j, i < n → j < n → f i = f j → i = j) → ∀ y, y < n → ∃ i, i < n ∧ f i = y
  | 0, _, _, _, y, hy => by omega
  | n + 1, f, hf, hi, y, hy => by
    have hg1 : ∀ i, i < n → (if f i = n then f n else f i) < n := fun i hin => by
      by_cases h : f i = n
      · rw [if_pos h]
        have h1 := hf n (by omega)
        have h2 : f n ≠ n := fun e => by have := hi i n (by omega) (by omega) (h.trans e.symm); omega
        omega
      · rw [if_neg h]; have := hf i (by omega); omega
    have hg2 : ∀ i j, i < n → j < n → (if f i = n then f n else f i) = (if f j = n then f n else f j) → i = j := fun i j hin hjn => by
      by_cases h : f i = n <;> by_cases k : f j = n
      · intro _; exact hi i j (by omega) (by omega) (h.trans k.symm)
      · rw [if_pos h, if_neg k]; intro e; have := hi n j (by omega) (by omega) e; omega
      · rw [if_neg h, if_pos k]; intro e; have := hi i n (by omega) (by omega) e; omega
      · rw [if_neg h, if_neg k]; exact hi i j (by omega) (by omega)
    by_cases h0 : y = f n
    · exact ⟨n, by omega, h0.symm⟩
    · by_cases h1 : y = n
      · obtain ⟨i, hin, he⟩ := pigeon n (fun i => if f i = n then f n else f i) hg1 hg2 (f n) (by have := hf n (by omega); omega)
        by_cases h : f i = n
        · exact ⟨i, by omega, h.trans h1.symm⟩
        · simp only [if_neg h] at he
          have := hi i n (by omega) (by omega) he; omega
      · obtain ⟨i, hin, he⟩ := pigeon n (fun i => if f i = n then f n else f i) hg1 hg2 y (by omega)
        by_cases h : f i = n
        · simp only [if_pos h] at he; exact absurd he.symm h0
        · simp only [if_neg h] at he; exact ⟨i, by omega, he⟩
theorem pigeon_back {n : Nat} {f : Nat → Nat} (hf : ∀ i, i < n → f i < n) (hs : ∀ y, y < n → ∃ i, i < n ∧ f i = y) : ∀ i j, i < n → j < n → f i = f j → i = j := by
  intro i j hi hj he
  have hg : ∀ y, y < n → (if h : ∃ i, i < n ∧ f i = y then Classical.choose h else 0) < n ∧ f (if h : ∃ i, i < n ∧ f i = y then Classical.choose h else 0) = y := fun y hy => by
    rw [dif_pos (hs y hy)]; exact Classical.choose_spec (hs y hy)
  generalize hG : (fun y => if h : ∃ i, i < n ∧ f i = y then Classical.choose h else 0) = g at *
  have hg2 : ∀ y, y < n → g y < n ∧ f (g y) = y := fun y hy => by rw [← hG]; exact hg y hy
  have hsur := pigeon n g (fun y hy => (hg2 y hy).1) (fun a b ha hb e => by rw [← (hg2 a ha).2, ← (hg2 b hb).2, e])
  obtain ⟨a, ha, rfl⟩ := hsur i hi
  obtain ⟨b, hb, rfl⟩ := hsur j hj
  rw [(hg2 a ha).2, (hg2 b hb).2] at he
  rw [he]

/-! ### a map that makes two spaces the same -/
def injP (n : Nat) (f : Nat → Nat) : Prop := ∀ i j, i < n → j < n → f i = f j → i = j
def isoP (n : Nat) (cs ds : List Nat) (f : Nat → Nat) : Prop := ∀ q p, q < n → p < n → (cell cs q).testBit p = (cell ds (f q)).testBit (f p)
def sameB (cs ds f : List Nat) : Bool := (List.range cs.length).all fun i => (List.range cs.length).all fun j => (!(cell f i == cell f j) || i == j) && ((cell cs i).testBit j == (cell ds (cell f i)).testBit (cell f j))
theorem same_iff {cs ds f : List Nat} : sameB cs ds f = true ↔ injP cs.length (cell f) ∧ isoP cs.length cs ds (cell f) := by
  unfold sameB injP isoP
  simp only [List.all_eq_true, List.mem_range, Bool.and_eq_true, Bool.or_eq_true, Bool.not_eq_true', beq_iff_eq, beq_eq_false_iff_ne]
  constructor
  · intro h
    refine ⟨fun i j hi hj he => ?_, fun q p hq hp => (h q hq p hp).2⟩
    rcases (h i hi j hj).1 with h1 | h1
    · exact absurd he h1
    · exact h1
  · rintro ⟨h1, h2⟩ i hi j hj
    refine ⟨?_, h2 i j hi hj⟩
    by_cases e : cell f i = cell f j
    · exact .inr (h1 i j hi hj e)
    · exact .inl e

/-! ### the program's test -/
def ptsTo (f : Nat → Nat) : Nat → Nat
  | 0 => 0
  | p + 1 => ptsTo f p ||| 2 ^ f p
theorem ptsTo_bit (f : Nat → Nat) (y : Nat) : ∀ n, (ptsTo f n).testBit y = true ↔ ∃ i, i < n ∧ f i = y
  | 0 => by simp [ptsTo]
  | n + 1 => by
    show (ptsTo f n ||| 2 ^ f n).testBit y = true ↔ _
    rw [Nat.testBit_or, Bool.or_eq_true, ptsTo_bit f y n, Nat.testBit_two_pow, decide_eq_true_eq]
    constructor
    · rintro (⟨i, h1, h2⟩ | h)
      · exact ⟨i, by omega, h2⟩
      · exact ⟨n, by omega, h⟩
    · rintro ⟨i, h1, h2⟩
      by_cases e : i = n
      · subst e; exact .inr h2
      · exact .inl ⟨i, by omega, h2⟩
theorem ptsTo_lt {f : Nat → Nat} (hf : ∀ q, f q < 6) : ∀ n, ptsTo f n < 64
  | 0 => by simp [ptsTo]
  | n + 1 => or_lt (k := 6) (ptsTo_lt hf n) (pow_lt64 (hf n))
theorem pts_all {n : Nat} {f : Nat → Nat} (hf : ∀ i, i < n → f i < n) : ptsTo f n = allN n ↔ injP n f := by
  constructor
  · intro h
    refine pigeon_back hf fun y hy => (ptsTo_bit f y n).1 ?_
    rw [h, all_bit]; simp [hy]
  · intro h
    refine Nat.eq_of_testBit_eq fun y => ?_
    rw [Bool.eq_iff_iff, ptsTo_bit, all_bit, decide_eq_true_eq]
    constructor
    · rintro ⟨i, hi, rfl⟩; exact hf i hi
    · exact pigeon n f hf h y
theorem imgL_bit (f : Nat → Nat) (y : Nat) : ∀ (pre : List Nat) (o : Nat), (pre.foldl (fun o q => o ||| 2 ^ f q) o).testBit y = true ↔ o.testBit y = true ∨ ∃ q, q ∈ pre ∧ f q = y
  | [], o => by simp
  | p :: pre, o => by
    rw [List.foldl_cons, imgL_bit f y pre, Nat.testBit_or, Bool.or_eq_true, Nat.testBit_two_pow, decide_eq_true_eq]
    constructor
    · rintro ((h | h) | ⟨q, h1, h2⟩)
      · exact .inl h
      · exact .inr ⟨p, by simp, h⟩
      · exact .inr ⟨q, by simp [h1], h2⟩
    · rintro (h | ⟨q, h1, h2⟩)
      · exact .inl (.inl h)
      · rcases List.mem_cons.1 h1 with rfl | h1
        · exact .inl (.inr h2)
        · exact .inr ⟨q, h1, h2⟩
theorem mvTo_bit (cs : List Nat) (f : Nat → Nat) (hc : Codes cs) (j y : Nat) : ∀ n, (mvTo cs f n j).testBit y = true ↔ ∃ p q, p < n ∧ f p = j ∧ (cell cs p).testBit q = true ∧ f q = y
  | 0 => by simp [mvTo]
  | n + 1 => by
    have hm : ∀ q, q ∈ bitsOf (cell cs n) ↔ (cell cs n).testBit q = true := fun q => bitsOf_mem (cell_64 hc n)
    show (if j = f n then mvTo cs f n j ||| imgL f (bitsOf (cell cs n)) else mvTo cs f n j).testBit y = true ↔ _
    by_cases e : j = f n
    · rw [if_pos e, Nat.testBit_or, Bool.or_eq_true, mvTo_bit cs f hc j y n]
      unfold imgL
      rw [imgL_bit, Nat.zero_testBit]
      constructor
      · rintro (⟨p, q, h1, h2⟩ | (h | ⟨q, h1, h2⟩))
        · exact ⟨p, q, by omega, h2⟩
        · cases h
        · exact ⟨n, q, by omega, e.symm, (hm q).1 h1, h2⟩
      · rintro ⟨p, q, h1, h2, h3, h4⟩
        by_cases k : p = n
        · subst k; exact .inr (.inr ⟨q, (hm q).2 h3, h4⟩)
        · exact .inl ⟨p, q, by omega, h2, h3, h4⟩
    · rw [if_neg e, mvTo_bit cs f hc j y n]
      constructor
      · rintro ⟨p, q, h1, h2⟩; exact ⟨p, q, by omega, h2⟩
      · rintro ⟨p, q, h1, h2, h3⟩
        exact ⟨p, q, by by_cases k : p = n; (subst k; exact absurd h2.symm e); omega, h2, h3⟩
theorem moved_same {cs ds : List Nat} {f : Nat → Nat} (hc : Codes cs) (hd : Codes ds) (hl : ds.length = cs.length) (hf : ∀ i, i < cs.length → f i < cs.length) (hi : injP cs.length f) :
    (∀ j, mvTo cs f cs.length j = cell ds j) ↔ isoP cs.length cs ds f := by
  constructor
  · intro h q p hq hp
    rw [Bool.eq_iff_iff, ← h (f q), mvTo_bit cs f hc]
    constructor
    · intro hb; exact ⟨q, p, hq, rfl, hb, rfl⟩
    · rintro ⟨q', p', h1, h2, h3, h4⟩
      obtain rfl := hi q' q h1 hq h2
      have hp' : p' < cs.length := set_lt (hc.2.2 q') h3
      obtain rfl := hi p' p hp' hp h4
      exact h3
  · intro h j
    refine Nat.eq_of_testBit_eq fun y => ?_
    rw [Bool.eq_iff_iff, mvTo_bit cs f hc]
    constructor
    · rintro ⟨p, q, h1, rfl, h3, rfl⟩
      rw [← h p q h1 (set_lt (hc.2.2 p) h3)]; exact h3
    · intro hb
      have hy : y < cs.length := by rw [← hl]; exact set_lt (hd.2.2 j) hb
      have hj : j < cs.length := by
        apply Classical.byContradiction
        intro hn
        rw [cell_far (by omega), Nat.zero_testBit] at hb; cases hb
      obtain ⟨p, hp, rfl⟩ := pigeon _ f hf hi j hj
      obtain ⟨q, hq, rfl⟩ := pigeon _ f hf hi y hy
      exact ⟨p, q, hp, rfl, by rw [h p q hp hq]; exact hb, rfl⟩
/-- the program's test of a map is the right one -/
theorem prog_same {cs ds f : List Nat} (hc : Codes cs) (hd : Codes ds) (hl : ds.length = cs.length) (hf : ∀ i, i < cs.length → cell f i < cs.length) :
    (ptsTo (cell f) cs.length = allN cs.length ∧ ∀ j, mvTo cs (cell f) cs.length j = cell ds j) ↔ sameB cs ds f = true := by
  rw [same_iff, pts_all hf]
  constructor
  · rintro ⟨h1, h2⟩; exact ⟨h1, (moved_same hc hd hl hf h1).1 h2⟩
  · rintro ⟨h1, h2⟩; exact ⟨h1, (moved_same hc hd hl hf h1).2 h2⟩

/-! ### the reference's test -/
theorem ref_same {cs ds f back : List Nat} (hl : ds.length = cs.length) (hf : ∀ i, i < cs.length → cell f i < cs.length) (hi : injP cs.length (cell f)) (hb : ∀ i, i < cs.length → cell back (cell f i) = i) :
    (smoothB cs ds f && smoothB ds cs back) = sameB cs ds f := by
  rw [Bool.eq_iff_iff, Bool.and_eq_true, smooth_iff, smooth_iff, same_iff, hl]
  constructor
  · rintro ⟨h1, h2⟩
    refine ⟨hi, fun q p hq hp => ?_⟩
    rw [Bool.eq_iff_iff]
    refine ⟨h1 q p hq hp, fun h => ?_⟩
    have := h2 (cell f q) (cell f p) (hf q hq) (hf p hp) h
    rwa [hb q hq, hb p hp] at this
  · rintro ⟨_, h⟩
    refine ⟨fun q p hq hp h3 => by rw [← h q p hq hp]; exact h3, fun q p hq hp h3 => ?_⟩
    obtain ⟨q', hq', rfl⟩ := pigeon _ (cell f) hf hi q hq
    obtain ⟨p', hp', rfl⟩ := pigeon _ (cell f) hf hi p hp
    rw [hb q' hq', hb p' hp', h q' p' hq' hp']; exact h3

/-! ### the first one -/
def allL (m : Nat) : Nat → List Nat → List (List Nat)
  | 0, l => [l]
  | d + 1, l => (List.range m).flatMap fun q => allL m d (l ++ [q])
theorem allL_ext {m : Nat} : ∀ d l x, x ∈ allL m d l → ∃ r : List Nat, x = l ++ r ∧ r.length = d ∧ ∀ y ∈ r, y < m
  | 0, l, x, h => by simp [allL] at h; exact ⟨[], by simp [h], rfl, by simp⟩
  | d + 1, l, x, h => by
    simp only [allL, List.mem_flatMap, List.mem_range] at h
    obtain ⟨q, hq, h⟩ := h
    obtain ⟨r, rfl, h1, h2⟩ := allL_ext d _ _ h
    refine ⟨q :: r, by simp, by simp [h1], fun y hy => ?_⟩
    rcases List.mem_cons.1 hy with rfl | hy
    · exact hq
    · exact h2 y hy
theorem smL_all_sub {cs ds : List Nat} : ∀ d l x, x ∈ smL cs ds d l → x ∈ allL ds.length d l
  | 0, l, x, h => h
  | d + 1, l, x, h => by
    simp only [smL, List.mem_flatMap, List.mem_range] at h
    obtain ⟨q, hq, h⟩ := h
    simp only [allL, List.mem_flatMap, List.mem_range]
    refine ⟨q, hq, ?_⟩
    by_cases hf : fitB cs ds l q = true
    · rw [if_pos hf] at h; exact smL_all_sub d _ _ h
    · rw [if_neg hf] at h; simp at h
theorem findSome_same {α β : Type} {f g : α → Option β} : ∀ l : List α, (∀ x ∈ l, f x = g x) → l.findSome? f = l.findSome? g
  | [], _ => rfl
  | x :: l, h => by
    rw [List.findSome?_cons, List.findSome?_cons, h x (by simp), findSome_same l (fun y hy => h y (by simp [hy]))]
theorem find_smL {cs ds : List Nat} {P : List Nat → Bool} (hP : ∀ l q r, P (l ++ q :: r) = true → l.length + (r.length + 1) = cs.length → (∀ y ∈ r, y < ds.length) → q < ds.length → fitB cs ds l q = true) :
    ∀ d l, l.length + d = cs.length → (smL cs ds d l).find? P = (allL ds.length d l).find? P
  | 0, l, _ => rfl
  | d + 1, l, hl => by
    show ((List.range ds.length).flatMap _).find? P = ((List.range ds.length).flatMap _).find? P
    rw [List.find?_flatMap, List.find?_flatMap]
    refine findSome_same _ fun q hq => ?_
    by_cases hf : fitB cs ds l q = true
    · rw [if_pos hf]; exact find_smL hP d _ (by simp; omega)
    · rw [if_neg hf, List.find?_nil]
      symm
      rw [List.find?_eq_none]
      intro x hx hpx
      obtain ⟨r, rfl, h1, h2⟩ := allL_ext d _ _ hx
      apply hf
      refine hP l q r ?_ (by omega) h2 (List.mem_range.1 hq)
      have e : l ++ [q] ++ r = l ++ q :: r := by simp
      rwa [e] at hpx
theorem same_fit {cs ds : List Nat} (hc : Codes cs) (l : List Nat) (q : Nat) (r : List Nat) (h : sameB cs ds (l ++ q :: r) = true) (hn : l.length + (r.length + 1) = cs.length) : fitB cs ds l q = true := by
  obtain ⟨_, h2⟩ := same_iff.1 h
  refine fitB_iff.2 fun o ho => ?_
  have e1 : cell (l ++ q :: r) l.length = q := cell_app_mid l q r
  have e2 : cell (l ++ q :: r) o = cell l o := cell_app_left ho
  have k1 := h2 l.length o (by omega) (by omega)
  have k2 := h2 o l.length (by omega) (by omega)
  rw [e1, e2] at k1 k2
  exact ⟨fun hb => by rw [← k1]; exact hb, fun hb => by rw [← k2]; exact hb⟩
/-- the first map -/
def firstSame (cs ds : List Nat) : Option (List Nat) := (allL ds.length cs.length []).find? (sameB cs ds)
theorem first_smooth {cs ds : List Nat} (hc : Codes cs) : (smoothsN cs ds).find? (sameB cs ds) = firstSame cs ds :=
  find_smL (fun l q r h1 h2 _ _ => same_fit hc l q r h1 h2) _ _ (by simp)
theorem smooth_map {cs ds f : List Nat} (h : f ∈ smoothsN cs ds) : f.length = cs.length ∧ ∀ y ∈ f, y < ds.length := by
  obtain ⟨r, rfl, h1, h2⟩ := allL_ext _ _ _ (smL_all_sub _ _ _ h)
  exact ⟨by simpa using h1, fun y hy => h2 y (by simpa using hy)⟩
end Go.Proofs.YtmagkcioplcidaeDoor

/- Loose points and the core: plain numbers. -/
set_option linter.unusedVariables false
set_option linter.unusedSimpArgs false
namespace Go.Proofs.YtmagkcioplcidaeDoor

def looseAt (cs : List Nat) (s p q : Nat) : Bool := decide (diff (cell cs p &&& s) (2 ^ p) = cell cs q &&& s) || decide (diff (cell (turnedN cs) p &&& s) (2 ^ p) = cell (turnedN cs) q &&& s)
def looseB (cs : List Nat) (s p : Nat) : Bool := (bitsOf (diff s (2 ^ p))).any fun q => looseAt cs s p q
def firstLoose (cs : List Nat) (s : Nat) : Option Nat := (bitsOf s).find? fun p => looseB cs s p
def coreGo (cs : List Nat) : Nat → Nat → Nat
  | 0, s => s
  | k + 1, s => match firstLoose cs s with
    | none => s
    | some p => coreGo cs k (diff s (2 ^ p))
/-- the first points of those that are alike -/
def firstsTo (cs : List Nat) (k : Nat) : Nat := gather (fun p => (List.range p).all fun k => decide (cell cs k ≠ cell cs p)) k
def firstsN (cs : List Nat) : Nat := firstsTo cs cs.length
def coreOf (cs : List Nat) (s : Nat) : Nat := coreGo cs s s
def coreN (cs : List Nat) : Nat := coreOf cs (firstsN cs)

theorem firstLoose_bit {cs : List Nat} {s p : Nat} (hs : s < 64) (h : firstLoose cs s = some p) : s.testBit p = true ∧ looseB cs s p = true := by
  unfold firstLoose at h
  exact ⟨(bitsOf_mem hs).1 (List.mem_of_find?_eq_some h), by have := List.find?_some h; simpa using this⟩
theorem coreGo_more {cs : List Nat} : ∀ k s, s < 64 → s ≤ k → coreGo cs (k + 1) s = coreGo cs k s
  | 0, s, _, h => by
    obtain rfl : s = 0 := by omega
    rfl
  | k + 1, s, hs, h => by
    show (match firstLoose cs s with | none => s | some p => coreGo cs (k + 1) (diff s (2 ^ p))) = (match firstLoose cs s with | none => s | some p => coreGo cs k (diff s (2 ^ p)))
    rcases hf : firstLoose cs s with _ | p
    · rfl
    · have h1 := diff_lt_self (firstLoose_bit hs hf).1
      exact coreGo_more k _ (by omega) (by omega)
theorem coreGo_same {cs : List Nat} {s : Nat} (hs : s < 64) : ∀ d k, s ≤ k → coreGo cs (k + d) s = coreGo cs k s
  | 0, k, h => rfl
  | d + 1, k, h => by rw [← Nat.add_assoc, coreGo_more _ _ hs (by omega), coreGo_same hs d k h]
theorem core_none {cs : List Nat} {s : Nat} (h : firstLoose cs s = none) : coreOf cs s = s := by
  unfold coreOf
  cases s with
  | zero => rfl
  | succ k =>
    show (match firstLoose cs (k + 1) with | none => k + 1 | some p => coreGo cs k (diff (k + 1) (2 ^ p))) = k + 1
    rw [h]
theorem core_some {cs : List Nat} {s p : Nat} (hs : s < 64) (h : firstLoose cs s = some p) : coreOf cs s = coreOf cs (diff s (2 ^ p)) := by
  have h1 := diff_lt_self (firstLoose_bit hs h).1
  unfold coreOf
  obtain ⟨k, rfl⟩ : ∃ k, s = k + 1 := ⟨s - 1, by omega⟩
  show (match firstLoose cs (k + 1) with | none => k + 1 | some p => coreGo cs k (diff (k + 1) (2 ^ p))) = _
  rw [h]
  show coreGo cs k (diff (k + 1) (2 ^ p)) = _
  have := coreGo_same (cs := cs) (s := diff (k + 1) (2 ^ p)) (by omega) (k - diff (k + 1) (2 ^ p)) (diff (k + 1) (2 ^ p)) (Nat.le_refl _)
  rwa [show diff (k + 1) (2 ^ p) + (k - diff (k + 1) (2 ^ p)) = k by omega] at this
/-- what holds of a set and stays as a loose point goes, holds of the core -/
theorem core_ind {cs : List Nat} {P : Nat → Prop} (hstep : ∀ s p, s < 64 → P s → s.testBit p = true → looseB cs s p = true → P (diff s (2 ^ p))) :
    ∀ k s, s ≤ k → s < 64 → P s → P (coreOf cs s) ∧ firstLoose cs (coreOf cs s) = none ∧ coreOf cs s < 64
  | k, s, hk, hs, hP => by
    rcases hf : firstLoose cs s with _ | p
    · rw [core_none hf]; exact ⟨hP, hf, hs⟩
    · have hb := firstLoose_bit hs hf
      have h1 := diff_lt_self hb.1
      rw [core_some hs hf]
      cases k with
      | zero => omega
      | succ k => exact core_ind hstep k _ (by omega) (by omega) (hstep s p hs hP hb.1 hb.2)
theorem firsts_lt (cs : List Nat) (k : Nat) : firstsTo cs k < 2 ^ k := gather_lt _ _
end Go.Proofs.YtmagkcioplcidaeDoor

/- Taking loose points away, in whatever order, leaves the same set but for names: plain law. -/
set_option linter.unusedVariables false
set_option linter.unusedSimpArgs false
namespace Go.Proofs.YtmagkcioplcidaeDoor

/-- p has one greatest point below it -/
def DnL (le : Nat → Nat → Bool) (S p a : Nat) : Prop := a ≠ p ∧ S.testBit a = true ∧ ∀ r, S.testBit r = true → ((r ≠ p ∧ le r p = true) ↔ le r a = true)
def flipR (le : Nat → Nat → Bool) : Nat → Nat → Bool := fun p q => le q p
def LooseR (le : Nat → Nat → Bool) (S p : Nat) : Prop := S.testBit p = true ∧ ∃ a, DnL le S p a ∨ DnL (flipR le) S p a
def StuckR (le : Nat → Nat → Bool) (S : Nat) : Prop := ∀ p, ¬ LooseR le S p
inductive ReachR (le : Nat → Nat → Bool) : Nat → Nat → Prop
  | refl (S : Nat) : ReachR le S S
  | step {S p C : Nat} : LooseR le S p → ReachR le (diff S (2 ^ p)) C → ReachR le S C
structure IsoBy (le : Nat → Nat → Bool) (S : Nat) (le' : Nat → Nat → Bool) (S' : Nat) (f g : Nat → Nat) : Prop where
  to : ∀ p, S.testBit p = true → S'.testBit (f p) = true ∧ g (f p) = p
  back : ∀ p, S'.testBit p = true → S.testBit (g p) = true ∧ f (g p) = p
  rel : ∀ p q, S.testBit p = true → S.testBit q = true → le p q = le' (f p) (f q)
def IsoR (le : Nat → Nat → Bool) (S : Nat) (le' : Nat → Nat → Bool) (S' : Nat) : Prop := ∃ f g, IsoBy le S le' S' f g
structure PosR (le : Nat → Nat → Bool) (S : Nat) : Prop where
  refl : ∀ p, S.testBit p = true → le p p = true
  trans : ∀ p q r, S.testBit p = true → S.testBit q = true → S.testBit r = true → le p q = true → le q r = true → le p r = true
  anti : ∀ p q, S.testBit p = true → S.testBit q = true → le p q = true → le q p = true → p = q

theorem IsoR.refl (le : Nat → Nat → Bool) (S : Nat) : IsoR le S le S := ⟨id, id, fun p h => ⟨h, rfl⟩, fun p h => ⟨h, rfl⟩, fun p q _ _ => rfl⟩
theorem IsoBy.symm {le le' : Nat → Nat → Bool} {S S' : Nat} {f g : Nat → Nat} (h : IsoBy le S le' S' f g) : IsoBy le' S' le S g f :=
  ⟨h.back, h.to, fun p q hp hq => by rw [h.rel _ _ (h.back p hp).1 (h.back q hq).1, (h.back p hp).2, (h.back q hq).2]⟩
theorem IsoR.symm {le le' : Nat → Nat → Bool} {S S' : Nat} (h : IsoR le S le' S') : IsoR le' S' le S := by
  obtain ⟨f, g, h⟩ := h
  exact ⟨g, f, h.symm⟩
theorem IsoR.trans {le le' le'' : Nat → Nat → Bool} {S S' S'' : Nat} (h : IsoR le S le' S') (k : IsoR le' S' le'' S'') : IsoR le S le'' S'' := by
  obtain ⟨f, g, h⟩ := h
  obtain ⟨f2, g2, k⟩ := k
  exact ⟨fun p => f2 (f p), fun p => g (g2 p), fun p hp => ⟨(k.to _ (h.to p hp).1).1, by show g (g2 (f2 (f p))) = p; rw [(k.to _ (h.to p hp).1).2, (h.to p hp).2]⟩, fun p hp => ⟨(h.back _ (k.back p hp).1).1, by show f2 (f (g (g2 p))) = p; rw [(h.back _ (k.back p hp).1).2, (k.back p hp).2]⟩,
    fun p q hp hq => by rw [h.rel p q hp hq, k.rel _ _ (h.to p hp).1 (h.to q hq).1]⟩
theorem PosR.without {le : Nat → Nat → Bool} {S : Nat} (h : PosR le S) (p : Nat) : PosR le (diff S (2 ^ p)) :=
  ⟨fun a ha => h.refl a ((without_bit _ _ _).1 ha).1, fun a b c ha hb hc => h.trans a b c ((without_bit _ _ _).1 ha).1 ((without_bit _ _ _).1 hb).1 ((without_bit _ _ _).1 hc).1, fun a b ha hb => h.anti a b ((without_bit _ _ _).1 ha).1 ((without_bit _ _ _).1 hb).1⟩
theorem PosR.flip {le : Nat → Nat → Bool} {S : Nat} (h : PosR le S) : PosR (flipR le) S :=
  ⟨h.refl, fun a b c ha hb hc h1 h2 => h.trans c b a hc hb ha h2 h1, fun a b ha hb h1 h2 => h.anti a b ha hb h2 h1⟩
theorem IsoBy.flip {le le' : Nat → Nat → Bool} {S S' : Nat} {f g : Nat → Nat} (h : IsoBy le S le' S' f g) : IsoBy (flipR le) S (flipR le') S' f g := ⟨h.to, h.back, fun p q hp hq => h.rel q p hq hp⟩

theorem IsoBy.dn {le le' : Nat → Nat → Bool} {S S' : Nat} {f g : Nat → Nat} (h : IsoBy le S le' S' f g) {p a : Nat} (hp : S.testBit p = true) (hd : DnL le S p a) : DnL le' S' (f p) (f a) := by
  obtain ⟨h1, h2, h3⟩ := hd
  refine ⟨fun e => h1 ?_, (h.to a h2).1, fun r hr => ?_⟩
  · rw [← (h.to a h2).2, e, (h.to p hp).2]
  · obtain ⟨hr1, hr2⟩ := h.back r hr
    have := h3 (g r) hr1
    rw [h.rel _ _ hr1 hp, h.rel _ _ hr1 h2, hr2] at this
    rw [← this]
    have e : r ≠ f p ↔ g r ≠ p := by
      constructor
      · intro h4 h5; apply h4; rw [← h5, hr2]
      · intro h4 h5; apply h4; rw [h5, (h.to p hp).2]
    rw [e]
theorem IsoBy.loose {le le' : Nat → Nat → Bool} {S S' : Nat} {f g : Nat → Nat} (h : IsoBy le S le' S' f g) {p : Nat} (hl : LooseR le S p) : LooseR le' S' (f p) := by
  obtain ⟨hp, a, ha⟩ := hl
  exact ⟨(h.to p hp).1, f a, ha.imp (fun k => h.dn hp k) (fun k => h.flip.dn hp k)⟩
theorem IsoBy.without {le le' : Nat → Nat → Bool} {S S' : Nat} {f g : Nat → Nat} (h : IsoBy le S le' S' f g) {p : Nat} (hp : S.testBit p = true) : IsoBy le (diff S (2 ^ p)) le' (diff S' (2 ^ f p)) f g := by
  refine ⟨fun r hr => ?_, fun r hr => ?_, fun r q hr hq => h.rel r q ((without_bit _ _ _).1 hr).1 ((without_bit _ _ _).1 hq).1⟩
  · rw [without_bit] at hr ⊢
    obtain ⟨h1, h2⟩ := h.to r hr.1
    exact ⟨⟨h1, fun e => hr.2 (by rw [← h2, e, (h.to p hp).2])⟩, h2⟩
  · rw [without_bit] at hr ⊢
    obtain ⟨h1, h2⟩ := h.back r hr.1
    exact ⟨⟨h1, fun e => hr.2 (by rw [← h2, e])⟩, h2⟩

theorem dn_dn {le : Nat → Nat → Bool} {S p q a b : Nat} (hP : PosR le S) (hp : S.testBit p = true) (hq : S.testBit q = true) (hne : p ≠ q) (h1 : DnL le S p a) (h2 : DnL le S q b) : ∃ b', DnL le (diff S (2 ^ p)) q b' := by
  by_cases e : b = p
  · subst e
    have haq : a ≠ q := fun e => by
      subst e
      have k1 := ((h1.2.2 a h1.2.1).2 (hP.refl a h1.2.1)).2
      have k2 := ((h2.2.2 b h2.2.1).2 (hP.refl b h2.2.1)).2
      exact hne (hP.anti b a hp hq k2 k1)
    refine ⟨a, haq, (without_bit _ _ _).2 ⟨h1.2.1, h1.1⟩, fun r hr => ?_⟩
    rw [without_bit] at hr
    rw [h2.2.2 r hr.1, ← h1.2.2 r hr.1]
    exact ⟨fun h => ⟨hr.2, h⟩, fun h => h.2⟩
  · refine ⟨b, h2.1, (without_bit _ _ _).2 ⟨h2.2.1, e⟩, fun r hr => h2.2.2 r ((without_bit _ _ _).1 hr).1⟩
theorem loose_via {le : Nat → Nat → Bool} {S p a : Nat} (hp : S.testBit p = true) (h : DnL le S p a) : LooseR le S p := ⟨hp, a, .inl h⟩
theorem loose_via' {le : Nat → Nat → Bool} {S p a : Nat} (hp : S.testBit p = true) (h : DnL (flipR le) S p a) : LooseR le S p := ⟨hp, a, .inr h⟩
theorem mixed {le : Nat → Nat → Bool} {S p q a b : Nat} (hP : PosR le S) (hp : S.testBit p = true) (hq : S.testBit q = true) (hne : p ≠ q) (h1 : DnL le S p a) (h2 : DnL (flipR le) S q b) :
    (LooseR le (diff S (2 ^ p)) q ∧ LooseR le (diff S (2 ^ q)) p) ∨ IsoR le (diff S (2 ^ p)) le (diff S (2 ^ q)) := by
  by_cases ha : a = q
  · subst ha
    have hb : b = p := by
      apply Classical.byContradiction
      intro hb
      have k1 := ((h1.2.2 a h1.2.1).2 (hP.refl a h1.2.1)).2
      have k2 : le b p = true := (h2.2.2 p hp).1 ⟨hne, k1⟩
      have k3 : le b a = true := (h1.2.2 b h2.2.1).1 ⟨hb, k2⟩
      have k4 := ((h2.2.2 b h2.2.1).2 (hP.refl b h2.2.1)).2
      exact h2.1 (hP.anti b a h2.2.1 hq k3 k4)
    subst hb
    right
    refine ⟨fun x => if x = a then b else x, fun x => if x = b then a else x, ?_, ?_, ?_⟩
    · intro r hr
      rw [without_bit] at hr
      by_cases e : r = a
      · subst e; rw [if_pos rfl, if_pos rfl]; exact ⟨(without_bit _ _ _).2 ⟨hp, hne⟩, rfl⟩
      · rw [if_neg e, if_neg hr.2]; exact ⟨(without_bit _ _ _).2 ⟨hr.1, e⟩, rfl⟩
    · intro r hr
      rw [without_bit] at hr
      by_cases e : r = b
      · subst e; rw [if_pos rfl, if_pos rfl]; exact ⟨(without_bit _ _ _).2 ⟨hq, fun e => hne e.symm⟩, rfl⟩
      · rw [if_neg e, if_neg hr.2]; exact ⟨(without_bit _ _ _).2 ⟨hr.1, e⟩, rfl⟩
    · intro x y hx hy
      rw [without_bit] at hx hy
      by_cases ex : x = a
      · subst ex
        by_cases ey : y = x
        · subst ey; rw [if_pos rfl, hP.refl _ hq, hP.refl _ hp]
        · rw [if_pos rfl, if_neg ey, Bool.eq_iff_iff]
          exact ⟨fun h => (h2.2.2 y hy.1).1 ⟨ey, h⟩, fun h => ((h2.2.2 y hy.1).2 h).2⟩
      · by_cases ey : y = a
        · subst ey
          rw [if_neg ex, if_pos rfl, Bool.eq_iff_iff]
          exact ⟨fun h => ((h1.2.2 x hx.1).2 h).2, fun h => (h1.2.2 x hx.1).1 ⟨hx.2, h⟩⟩
        · rw [if_neg ex, if_neg ey]
  · by_cases hb : b = p
    · exfalso
      subst hb
      have k1 := ((h2.2.2 b h2.2.1).2 (hP.refl b h2.2.1)).2
      have k2 : le q a = true := (h1.2.2 q hq).1 ⟨fun e => hne e.symm, k1⟩
      have k3 : le b a = true := (h2.2.2 a h1.2.1).1 ⟨ha, k2⟩
      exact ((h1.2.2 b hp).2 k3).1 rfl
    · left
      exact ⟨⟨(without_bit _ _ _).2 ⟨hq, fun e => hne e.symm⟩, b, .inr ⟨h2.1, (without_bit _ _ _).2 ⟨h2.2.1, hb⟩, fun r hr => h2.2.2 r ((without_bit _ _ _).1 hr).1⟩⟩,
        ⟨(without_bit _ _ _).2 ⟨hp, hne⟩, a, .inl ⟨h1.1, (without_bit _ _ _).2 ⟨h1.2.1, ha⟩, fun r hr => h1.2.2 r ((without_bit _ _ _).1 hr).1⟩⟩⟩
theorem meet_again {le : Nat → Nat → Bool} {S p q : Nat} (hP : PosR le S) (hne : p ≠ q) (h1 : LooseR le S p) (h2 : LooseR le S q) :
    (LooseR le (diff S (2 ^ p)) q ∧ LooseR le (diff S (2 ^ q)) p) ∨ IsoR le (diff S (2 ^ p)) le (diff S (2 ^ q)) := by
  obtain ⟨hp, a, ha⟩ := h1
  obtain ⟨hq, b, hb⟩ := h2
  have hp' : (diff S (2 ^ q)).testBit p = true := (without_bit _ _ _).2 ⟨hp, hne⟩
  have hq' : (diff S (2 ^ p)).testBit q = true := (without_bit _ _ _).2 ⟨hq, fun e => hne e.symm⟩
  rcases ha with ha | ha <;> rcases hb with hb | hb
  · obtain ⟨b', k1⟩ := dn_dn hP hp hq hne ha hb
    obtain ⟨a', k2⟩ := dn_dn hP hq hp (fun e => hne e.symm) hb ha
    exact .inl ⟨loose_via hq' k1, loose_via hp' k2⟩
  · exact mixed hP hp hq hne ha hb
  · rcases mixed hP hq hp (fun e => hne e.symm) hb ha with h | h
    · exact .inl ⟨h.2, h.1⟩
    · exact .inr h.symm
  · obtain ⟨b', k1⟩ := dn_dn hP.flip hp hq hne ha hb
    obtain ⟨a', k2⟩ := dn_dn hP.flip hq hp (fun e => hne e.symm) hb ha
    exact .inl ⟨loose_via' hq' k1, loose_via' hp' k2⟩
theorem reach_end (le : Nat → Nat → Bool) : ∀ k S, S ≤ k → ∃ C, ReachR le S C ∧ StuckR le C
  | k, S, hk => by
    by_cases h : StuckR le S
    · exact ⟨S, .refl S, h⟩
    · obtain ⟨p, hp⟩ : ∃ p, LooseR le S p := Classical.byContradiction fun hn => h fun p hp => hn ⟨p, hp⟩
      have hlt := diff_lt_self hp.1
      cases k with
      | zero => omega
      | succ k =>
        obtain ⟨C, h1, h2⟩ := reach_end le k (diff S (2 ^ p)) (by omega)
        exact ⟨C, .step hp h1, h2⟩
theorem core_same : ∀ (k S : Nat) (le le' : Nat → Nat → Bool) (S' C C' : Nat), S ≤ k → PosR le S → IsoR le S le' S' → ReachR le S C → StuckR le C → ReachR le' S' C' → StuckR le' C' → IsoR le C le' C'
  | k, S, le, le', S', C, C', hk, hP, hi, h1, h2, h3, h4 => by
    have hi0 := hi
    obtain ⟨f, g, hi⟩ := hi
    cases h1 with
    | refl =>
      cases h3 with
      | refl => exact hi0
      | step hl h5 => exact absurd (hi.symm.loose hl) (h2 _)
    | step hl h5 =>
      rename_i p
      cases h3 with
      | refl => exact absurd (hi.loose hl) (h4 _)
      | step hl' h6 =>
        rename_i q'
        have hlt := diff_lt_self hl.1
        cases k with
        | zero => omega
        | succ k =>
          obtain ⟨hgq, hfg⟩ := hi.back q' hl'.1
          have hq := hi.symm.loose hl'
          have hw : IsoR le (diff S (2 ^ g q')) le' (diff S' (2 ^ q')) := ⟨f, g, by have := hi.without hgq; rwa [hfg] at this⟩
          by_cases e : p = g q'
          · rw [← e] at hw
            exact core_same k _ le le' _ C C' (by omega) (hP.without p) hw h5 h2 h6 h4
          · rcases meet_again hP e hl hq with ⟨k1, k2⟩ | k1
            · obtain ⟨T, t1, t2⟩ := reach_end le _ (diff (diff S (2 ^ p)) (2 ^ g q')) (Nat.le_refl _)
              have hcomm : diff (diff S (2 ^ p)) (2 ^ g q') = diff (diff S (2 ^ g q')) (2 ^ p) := Nat.eq_of_testBit_eq fun i => by
                simp only [diff_bit]
                cases S.testBit i <;> cases (2 ^ p).testBit i <;> cases (2 ^ g q').testBit i <;> rfl
              have hlt2 := diff_lt_self hgq
              have a1 := core_same k _ le le _ C T (by omega) (hP.without p) (IsoR.refl le _) h5 h2 (.step k1 t1) t2
              have a2 := core_same k _ le le' _ T C' (by omega) (hP.without (g q')) hw (.step k2 (by rw [← hcomm]; exact t1)) t2 h6 h4
              exact a1.trans a2
            · exact core_same k _ le le' _ C C' (by omega) (hP.without p) (k1.trans hw) h5 h2 h6 h4
end Go.Proofs.YtmagkcioplcidaeDoor

/- The core, as the loose points go away one by one: plain law. -/
set_option linter.unusedVariables false
set_option linter.unusedSimpArgs false
namespace Go.Proofs.YtmagkcioplcidaeDoor

/-- a point lies in the cell of a point -/
def leC (cs : List Nat) (p q : Nat) : Bool := (cell cs q).testBit p
theorem half_iff {a b s p : Nat} : diff (a &&& s) (2 ^ p) = b &&& s ↔ ∀ r, s.testBit r = true → ((r ≠ p ∧ a.testBit r = true) ↔ b.testBit r = true) := by
  constructor
  · intro h r hr
    have h2 : (diff (a &&& s) (2 ^ p)).testBit r = true ↔ (b &&& s).testBit r = true := by rw [h]
    rw [without_bit, Nat.testBit_and, Nat.testBit_and, hr, Bool.and_true, Bool.and_true] at h2
    rw [← h2]; exact And.comm
  · intro h
    refine Nat.eq_of_testBit_eq fun r => ?_
    rw [Bool.eq_iff_iff, without_bit, Nat.testBit_and, Nat.testBit_and, Bool.and_eq_true, Bool.and_eq_true]
    constructor
    · rintro ⟨⟨h1, h2⟩, h3⟩; exact ⟨(h r h2).1 ⟨h3, h1⟩, h2⟩
    · rintro ⟨h1, h2⟩
      have := (h r h2).2 h1
      exact ⟨⟨this.2, h2⟩, this.1⟩
theorem looseAt_iff {cs : List Nat} {s p q : Nat} (hs : s < 2 ^ cs.length) (hp : p < cs.length) (hq : q < cs.length) : looseAt cs s p q = true ↔
    (∀ r, s.testBit r = true → ((r ≠ p ∧ leC cs r p = true) ↔ leC cs r q = true)) ∨ (∀ r, s.testBit r = true → ((r ≠ p ∧ leC cs p r = true) ↔ leC cs q r = true)) := by
  unfold looseAt
  rw [Bool.or_eq_true, decide_eq_true_eq, decide_eq_true_eq, half_iff, half_iff]
  refine or_congr Iff.rfl ?_
  constructor
  · intro h r hr
    have hrn := set_lt hs hr
    have := h r hr
    rwa [turned_bit hp hrn, turned_bit hq hrn] at this
  · intro h r hr
    have hrn := set_lt hs hr
    rw [turned_bit hp hrn, turned_bit hq hrn]
    exact h r hr
theorem looseB_iff {cs : List Nat} {s p : Nat} (hc : Codes cs) (hs : s < 2 ^ cs.length) (hp : s.testBit p = true) : looseB cs s p = true ↔ LooseR (leC cs) s p := by
  have h64 : s < 64 := Nat.lt_of_lt_of_le hs (Nat.pow_le_pow_right (n := 2) (by omega) hc.2.1)
  have hd64 : diff s (2 ^ p) < 64 := diff_lt (k := 6) h64
  unfold looseB
  rw [List.any_eq_true]
  constructor
  · rintro ⟨q, hq, h⟩
    rw [bitsOf_mem hd64, without_bit] at hq
    rw [looseAt_iff hs (set_lt hs hp) (set_lt hs hq.1)] at h
    exact ⟨hp, q, h.imp (fun k => ⟨hq.2, hq.1, k⟩) (fun k => ⟨hq.2, hq.1, k⟩)⟩
  · rintro ⟨_, q, h⟩
    have hq : q ≠ p ∧ s.testBit q = true := by
      rcases h with h | h
      · exact ⟨h.1, h.2.1⟩
      · exact ⟨h.1, h.2.1⟩
    refine ⟨q, ?_, (looseAt_iff hs (set_lt hs hp) (set_lt hs hq.2)).2 (h.imp (fun k => k.2.2) (fun k => k.2.2))⟩
    rw [bitsOf_mem hd64, without_bit]
    exact ⟨hq.2, hq.1⟩
theorem stuck_of_none {cs : List Nat} {s : Nat} (hc : Codes cs) (hs : s < 2 ^ cs.length) (h : firstLoose cs s = none) : StuckR (leC cs) s := by
  intro p hl
  have h64 : s < 64 := Nat.lt_of_lt_of_le hs (Nat.pow_le_pow_right (n := 2) (by omega) hc.2.1)
  unfold firstLoose at h
  rw [List.find?_eq_none] at h
  exact h p ((bitsOf_mem h64).2 hl.1) ((looseB_iff hc hs hl.1).2 hl)
/-- the core is reached, and no point of it is loose -/
theorem core_reach {cs : List Nat} (hc : Codes cs) : ∀ k s, s ≤ k → s < 2 ^ cs.length → ReachR (leC cs) s (coreOf cs s) ∧ StuckR (leC cs) (coreOf cs s) ∧ coreOf cs s < 2 ^ cs.length
  | k, s, hk, hs => by
    have h64 : s < 64 := Nat.lt_of_lt_of_le hs (Nat.pow_le_pow_right (n := 2) (by omega) hc.2.1)
    rcases hf : firstLoose cs s with _ | p
    · rw [core_none hf]; exact ⟨.refl s, stuck_of_none hc hs hf, hs⟩
    · have hb := firstLoose_bit h64 hf
      have h1 := diff_lt_self hb.1
      rw [core_some h64 hf]
      cases k with
      | zero => omega
      | succ k =>
        obtain ⟨a1, a2, a3⟩ := core_reach hc k (diff s (2 ^ p)) (by omega) (diff_lt hs)
        exact ⟨.step ((looseB_iff hc hs hb.1).1 hb.2) a1, a2, a3⟩
theorem core_lt {cs : List Nat} (hc : Codes cs) : coreN cs < 2 ^ cs.length := (core_reach hc _ _ (Nat.le_refl _) (firsts_lt cs _)).2.2
theorem posC {cs : List Nat} (hs : spaceB cs = true) (hc : Codes cs) {S : Nat} (hS : S < 2 ^ cs.length) (hd : ∀ p q, S.testBit p = true → S.testBit q = true → cell cs p = cell cs q → p = q) : PosR (leC cs) S := by
  refine ⟨fun p hp => (space_iff.1 hs p (set_lt hS hp)).1, fun p q r hp hq hr h1 h2 => ?_, fun p q hp hq h1 h2 => ?_⟩
  · exact sub_iff.1 ((space_iff.1 hs r (set_lt hS hr)).2 q (set_lt hS hq) h2) p h1
  · refine hd p q hp hq ?_
    refine Nat.eq_of_testBit_eq fun i => ?_
    rw [Bool.eq_iff_iff]
    exact ⟨sub_iff.1 ((space_iff.1 hs q (set_lt hS hq)).2 p (set_lt hS hp) h1) i, sub_iff.1 ((space_iff.1 hs p (set_lt hS hp)).2 q (set_lt hS hq) h2) i⟩
/-- no two of the first points are alike -/
theorem firsts_bit {cs : List Nat} {p : Nat} : (firstsN cs).testBit p = true ↔ p < cs.length ∧ ∀ k, k < p → cell cs k ≠ cell cs p := by
  unfold firstsN firstsTo
  rw [gather_bit, Bool.and_eq_true, decide_eq_true_eq, List.all_eq_true]
  simp only [List.mem_range, decide_eq_true_eq]
theorem firsts_ne {cs : List Nat} {p q : Nat} (hp : (firstsN cs).testBit p = true) (hq : (firstsN cs).testBit q = true) (h : cell cs p = cell cs q) : p = q := by
  rw [firsts_bit] at hp hq
  apply Classical.byContradiction
  intro hne
  by_cases hlt : p < q
  · exact hq.2 p hlt h
  · exact hp.2 q (by omega) h.symm
theorem firsts_pos {cs : List Nat} (hs : spaceB cs = true) (hc : Codes cs) : PosR (leC cs) (firstsN cs) := posC hs hc (firsts_lt cs _) (fun p q hp hq h => firsts_ne hp hq h)
theorem iso_len {le le' : Nat → Nat → Bool} {S S' : Nat} (hS : S < 64) (hS' : S' < 64) (h : IsoR le S le' S') : (bitsOf S).length = (bitsOf S').length := by
  obtain ⟨f, g, h⟩ := h
  have hp : (bitsOf S').Perm ((bitsOf S).map f) := by
    refine (List.perm_ext_iff_of_nodup (bitsOf_nodup S') ?_).2 fun x => ?_
    · rw [List.Nodup, List.pairwise_map]
      refine List.Pairwise.imp_of_mem (fun {a b} ha hb hne e => hne ?_) (bitsOf_nodup S)
      rw [← (h.to a ((bitsOf_mem hS).1 ha)).2, e, (h.to b ((bitsOf_mem hS).1 hb)).2]
    · rw [bitsOf_mem hS', List.mem_map]
      constructor
      · intro hx; exact ⟨g x, (bitsOf_mem hS).2 (h.back x hx).1, (h.back x hx).2⟩
      · rintro ⟨a, ha, rfl⟩; exact (h.to a ((bitsOf_mem hS).1 ha)).1
  rw [hp.length_eq, List.length_map]
/-- two spaces whose first points are the same but for names have cores of the same number of points -/
theorem cores_len {cs ds : List Nat} (hs : spaceB cs = true) (hc : Codes cs) (hd : Codes ds) (h : IsoR (leC cs) (firstsN cs) (leC ds) (firstsN ds)) : (bitsOf (coreN cs)).length = (bitsOf (coreN ds)).length := by
  obtain ⟨a1, a2, a3⟩ := core_reach hc _ _ (Nat.le_refl _) (firsts_lt cs _)
  obtain ⟨b1, b2, b3⟩ := core_reach hd _ _ (Nat.le_refl _) (firsts_lt ds _)
  have hp6 : ∀ {l : List Nat}, Codes l → (2 : Nat) ^ l.length ≤ 64 := fun hl => Nat.pow_le_pow_right (n := 2) (by omega) hl.2.1
  exact iso_len (Nat.lt_of_lt_of_le a3 (hp6 hc)) (Nat.lt_of_lt_of_le b3 (hp6 hd)) (core_same _ _ _ _ _ _ _ (Nat.le_refl _) (firsts_pos hs hc) h a1 a2 b1 b2)
end Go.Proofs.YtmagkcioplcidaeDoor

/- ply: loose. -/
set_option linter.unusedVariables false
set_option linter.unusedSimpArgs false
namespace Go.Proofs.YtmagkcioplcidaeDoor
open Go.RowKit Go.Shelf
attribute [local go_sem] Oper.semAt_some

theorem pow_int (p : Nat) : (((2 ^ p : Nat) : Int)) = (2 : Int) ^ p := by push_cast; rfl
theorem eqInt {a b : Nat} (h : a = b) : ((a : Int) == (b : Int)) = true := by simp [h]
theorem neInt {a b : Nat} (h : ¬ a = b) : ((a : Int) == (b : Int)) = false := by
  rw [beq_eq_false_iff_ne]; intro e; apply h; exact_mod_cast e
/-- the two tests of loose, one after the other -/
def loose1 (cs : List Nat) (s p q : Nat) : Bool := decide (diff (cell cs p &&& s) (2 ^ p) = cell cs q &&& s)
theorem looseAt_two (cs : List Nat) (s p q : Nat) : looseAt cs s p q = (loose1 cs s p q || loose1 (turnedN cs) s p q) := rfl

set_option maxRecDepth 100000 in
set_option maxHeartbeats 1600000 in
theorem loose_any (cs : List Nat) (s p : Nat) (w : World) (hc : Codes cs) (hs : s < 2 ^ cs.length) (hp : p < 6) (hT : Tab w) :
    Calls Tryd.prog 43 #[spV cs, .int .u64 s, .int .i64 p] w fun e w' => e = .returned (.bool (looseB cs s p)) ∧ Below w.heap.size w w' := by
  have hn6 := hc.2.1
  have h64 := lt64_of hn6 hs
  have hd64 : diff s (2 ^ p) < 64 := diff_lt (k := 6) h64
  have HC := Lib.hid (cell_64 hc)
  have HCT := Lib.hid (cell_64 (turned_codes hc))
  have HTL := turned_len cs
  have hCODES := Lib.hid hc
  have hsh := shl_num p hp
  have hpw := pow_lt64 hp
  clear hc hs
  refine (callsIn_wide (n := 20)).1 ?_
  refine callsIn_of_wp_marks Tryd.func43 rfl trivial ?_ rfl
  simp only [Tryd.ntmps43, List.size_toArray, List.length_cons, List.length_nil, Nat.reduceAdd, Nat.reduceSub, Array.replicate_succ, Array.replicate_zero, List.push_toArray, List.append_toArray, List.nil_append, List.cons_append]
  gi_wp2_with fail
  generalize hW0 : World.alloc (World.alloc (World.alloc (World.alloc w _) _) _) _ = W0
  have hsz : W0.heap.size = w.heap.size + 4 := by rw [← hW0]; simp
  have hbW : Below w.heap.size w W0 := by rw [← hW0]; exact ((((Below.refl _ _).alloc (Nat.le_refl _) _).alloc (by simp) _).alloc (by simp <;> omega) _).alloc (by simp <;> omega) _
  have hb0 : SpF W0 w.heap.size cs.length (cell cs) := by rw [← hW0]; exact alloc_old (alloc_old (alloc_old (heap_alloc_new _ _)))
  have hb1 : W0.heap[w.heap.size + 1]? = some (.cells #[.int .u64 s] 38) := by rw [← hW0]; exact alloc_old (alloc_old (heap_alloc_at _ _ _ (by simp)))
  have hb2 : W0.heap[w.heap.size + 2]? = some (.cells #[.int .i64 p] 3) := by rw [← hW0]; exact alloc_old (heap_alloc_at _ _ _ (by simp))
  have hb3 : W0.heap[w.heap.size + 3]? = some (.cells #[.bool false] 4) := by rw [← hW0]; exact heap_alloc_at _ _ _ (by simp)
  clear hW0
  refine ⟨trivial, (callsIn_wide.2 (turned_any cs _ hCODES.out)).mono ?_⟩
  rintro e w1 ⟨rfl, hbt⟩
  have s0 := hb0.below hbt
  have s1 := (hbt.block _ (heap_lt hb1)).trans hb1
  have s2 := (hbt.block _ (heap_lt hb2)).trans hb2
  have s3 := (hbt.block _ (heap_lt hb3)).trans hb3
  have hbw := below_to hbW hbW.size hbt
  have hszt := hbt.size
  clear hb0 hb1 hb2 hb3 hbW hbt
  gi_wp2_with fail
  have hal : Below w1.heap.size w1 (w1.alloc (.cells #[.int .i64 cs.length, .int .u64 (cell (turnedN cs) 0), .int .u64 (cell (turnedN cs) 1), .int .u64 (cell (turnedN cs) 2), .int .u64 (cell (turnedN cs) 3), .int .u64 (cell (turnedN cs) 4), .int .u64 (cell (turnedN cs) 5)] 41)) := (Below.refl _ _).alloc (Nat.le_refl _) _
  have s4 : SpF (w1.alloc (.cells #[.int .i64 cs.length, .int .u64 (cell (turnedN cs) 0), .int .u64 (cell (turnedN cs) 1), .int .u64 (cell (turnedN cs) 2), .int .u64 (cell (turnedN cs) 3), .int .u64 (cell (turnedN cs) 4), .int .u64 (cell (turnedN cs) 5)] 41)) w1.heap.size cs.length (cell (turnedN cs)) := heap_alloc_new _ _
  replace s0 := s0.below hal
  replace s1 := (hal.block _ (heap_lt s1)).trans s1
  replace s2 := (hal.block _ (heap_lt s2)).trans s2
  replace s3 := (hal.block _ (heap_lt s3)).trans s3
  replace hbw := below_to hbw hbw.size hal
  have hsz2 : (w1.alloc (.cells #[.int .i64 cs.length, .int .u64 (cell (turnedN cs) 0), .int .u64 (cell (turnedN cs) 1), .int .u64 (cell (turnedN cs) 2), .int .u64 (cell (turnedN cs) 3), .int .u64 (cell (turnedN cs) 4), .int .u64 (cell (turnedN cs) 5)] 41)).heap.size = w1.heap.size + 1 := by simp
  generalize hW2 : World.alloc w1 _ = W2 at *
  clear hW2 hal
  generalize hB1 : w1.heap.size = B1 at *
  clear hB1
  have HSZ : Hid (w.heap.size + 4 ≤ B1) := Lib.hid (by omega)
  have c1 := cell_of s1 (j := 0) rfl
  have c2 := cell_of s2 (j := 0) rfl
  have p0 : (0 : Int) ≤ (p : Int) := by omega
  have p6 : (p : Int) < 6 := by omega
  have hdf : bits .andNot .u64 (s : Int) ((2 : Int) ^ p) = ((diff s (2 ^ p) : Nat) : Int) := by
    have := u64_andNot s (2 ^ p) (by omega) (by omega)
    rwa [pow_int] at this
  have S0 := Lib.hid s0
  have S1 := Lib.hid s1
  have S2 := Lib.hid s2
  have S3 := Lib.hid s3
  have S4 := Lib.hid s4
  have HBW := Lib.hid hbw
  clear s0 s1 s2 s3 s4 hbw
  refine region_then 4 rfl rfl rfl (by kernel_rfl) (by kernel_rfl) (by kernel_rfl) (by kernel_rfl) (by kernel_rfl) (by kernel_rfl) ?_
  dsimp only [List.dropLast]
  repeat (gi_big_quiet_step (fail))
  refine wpQuietIn_nil ?_
  intro _ hw'
  obtain ⟨nq, hw''⟩ := hw'
  subst hw''
  have hszd := size_drewN W2 nq
  rw [hsz2] at hszd
  have r0 := S0.out.drewN nq
  have r1 := (heap_drewN W2 nq _).trans S1.out
  have r2 := (heap_drewN W2 nq _).trans S2.out
  have r3 := (heap_drewN W2 nq _).trans S3.out
  have r4 := S4.out.drewN nq
  have rb := below_to HBW.out HBW.out.size (below_drewN W2 nq)
  generalize hW3 : W2.drewN nq = W3 at *
  clear hW3 c1 c2 S0 S1 S2 S3 S4 HBW hsz2
  go_simp
  refine ⟨trivial, (callsIn_wide.2 (points_any (diff s (2 ^ p)) _)).mono ?_⟩
  rintro e w2 ⟨rfl, rfl⟩
  have hal : Below W3.heap.size W3 (W3.alloc (.cells #[.int .u64 (diff s (2 ^ p) : Nat)] 38)) := (Below.refl _ _).alloc (Nat.le_refl _) _
  have hBs := heap_alloc_new W3 (.cells #[.int .u64 (diff s (2 ^ p) : Nat)] 38)
  replace r0 := r0.below hal
  replace r1 := (hal.block _ (heap_lt r1)).trans r1
  replace r2 := (hal.block _ (heap_lt r2)).trans r2
  replace r3 := (hal.block _ (heap_lt r3)).trans r3
  replace r4 := r4.below hal
  replace rb := below_to rb rb.size hal
  have hsz4 : (W3.alloc (.cells #[.int .u64 (diff s (2 ^ p) : Nat)] 38)).heap.size = B1 + 2 := by simp [hszd]
  rw [hszd] at hBs ⊢
  generalize hW4 : World.alloc W3 _ = W4 at *
  clear hW4 hal hszd
  gi_wp2_with fail
  have hsz := HSZ.out
  refine range_pts (gf := 48) (Bs := B1 + 1) (s := diff s (2 ^ p)) rfl (enters_of Tryd.func48 (by kernel_rfl) rfl)
    (points_given (diff s (2 ^ p)) (B1 + 1) hd64 19 (by omega) W4 (by omega)) hBs rfl
    (fun pre W => SpF W w.heap.size cs.length (cell cs) ∧ W.heap[w.heap.size + 1]? = some (.cells #[.int .u64 s] 38) ∧ W.heap[w.heap.size + 2]? = some (.cells #[.int .i64 p] 3) ∧ W.heap[w.heap.size + 3]? = some (.cells #[.bool false] 4) ∧ SpF W B1 cs.length (cell (turnedN cs)) ∧ Below w.heap.size w W ∧ ∀ q ∈ pre, looseAt cs s p q = false)
    (fun c pre W => c = .ret ∧ W.heap[w.heap.size + 3]? = some (.cells #[.bool true] 4) ∧ Below w.heap.size w W ∧ looseB cs s p = true) ?a1 ?hI ?hIx ?hIB (fun pre W h => hT.below h.2.2.2.2.2.1) ⟨r0, r1, r2, r3, r4, rb, by simp⟩ ?assign ?body ?done ?stop
  case assign =>
    intro l x W K hK
    gi_wp2
    exact hK
  case hI =>
    rintro s W W' row ⟨h1, h2, h3, h4, h5, h6, h7⟩ hg hr
    exact ⟨own_block hg hr (by omega) h1, own_block hg hr (by omega) h2, own_block hg hr (by omega) h3, own_block hg hr (by omega) h4, own_block hg hr (by omega) h5, h6.grown hg h6.size (fun k e => by have := (hr k e).1; omega), h7⟩
  case hIx =>
    rintro c s W W' row ⟨h1, h2, h4, h5⟩ hg hr
    exact ⟨h1, own_block hg hr (by omega) h2, h4.grown hg h4.size (fun k e => by have := (hr k e).1; omega), h5⟩
  case hIB =>
    rintro s W v ⟨h1, h2, h3, h4, h5, h6, h7⟩
    exact ⟨h1.other (by omega), set_other h2 (by omega), set_other h3 (by omega), set_other h4 (by omega), h5.other (by omega), h6.setCell (p := ⟨B1 + 1, 0, none⟩) (by simp; omega) _, h7⟩
  case body =>
    rintro l pre x W hl ⟨h1, h2, h3, h4, h5, h6, h7⟩ hpx
    obtain ⟨hxb, hx6⟩ := pre_bit hd64 hpx
    have q1 := h1.cell hx6
    have q2 := h1.cell hp
    have q3 := h5.cell hx6
    have q4 := h5.cell hp
    have c1 := cell_of h2 (j := 0) rfl
    have c2 := cell_of h3 (j := 0) rfl
    have c3 := cell_of h4 (j := 0) rfl
    have f3 := free_of h4 0
    have a1 := HC.out x
    have a2 := HC.out p
    have a3 := HCT.out x
    have a4 := HCT.out p
    have e1 := u64_and (cell cs p) s (by omega) (by omega)
    have e2 := u64_and (cell cs x) s (by omega) (by omega)
    have e3 := u64_and (cell (turnedN cs) p) s (by omega) (by omega)
    have e4 := u64_and (cell (turnedN cs) x) s (by omega) (by omega)
    have n1 : cell cs p &&& s < 64 := and_lt (n := 64) a2
    have n2 : cell (turnedN cs) p &&& s < 64 := and_lt (n := 64) a4
    have e5 : bits .andNot .u64 ((cell cs p &&& s : Nat) : Int) ((2 : Int) ^ p) = ((diff (cell cs p &&& s) (2 ^ p) : Nat) : Int) := by
      have := u64_andNot (cell cs p &&& s) (2 ^ p) (by omega) (by omega)
      rwa [pow_int] at this
    have e6 : bits .andNot .u64 ((cell (turnedN cs) p &&& s : Nat) : Int) ((2 : Int) ^ p) = ((diff (cell (turnedN cs) p &&& s) (2 ^ p) : Nat) : Int) := by
      have := u64_andNot (cell (turnedN cs) p &&& s) (2 ^ p) (by omega) (by omega)
      rwa [pow_int] at this
    have x0 : (0 : Int) ≤ (x : Int) := by omega
    have x1 : (x : Int) < 6 := by omega
    have hyes : looseAt cs s p x = true → looseB cs s p = true := fun h => List.any_eq_true.2 ⟨x, hpx.subset (by simp), h⟩
    have HY := Lib.hid hyes
    have H1 := Lib.hid h1
    have H2 := Lib.hid h2
    have H3 := Lib.hid h3
    have H4 := Lib.hid h4
    have H5 := Lib.hid h5
    have H6 := Lib.hid h6
    have H7 := Lib.hid h7
    have HLA := Lib.hid (looseAt_two cs s p x)
    clear h1 h2 h3 h4 h5 h6 h7 hpx hxb hyes
    by_cases t1 : diff (cell cs p &&& s) (2 ^ p) = cell cs x &&& s
    · have g1 := eqInt t1
      have HT1 : Hid (looseB cs s p = true) := Lib.hid (HY.out (by rw [HLA.out]; unfold loose1; rw [decide_eq_true t1]; rfl))
      clear t1
      gi_wp2_with fail
      refine region_quiet_round (by kernel_rfl) (by kernel_rfl) (by kernel_rfl) ?_
      repeat (gi_big_quiet_step (fail))
      refine wpQuietIn_nil ?_
      intro _ hw'
      obtain ⟨nq, hw''⟩ := hw'
      subst hw''
      gi_wp2_with fail
      exact ⟨(keeps_drewN _ W _).trans (keeps_set _ _ _ _ _), SameAt.setCell (heap_drewN _ _ _) (by omega) _, rfl, set_same ((heap_drewN _ _ _).trans H4.out), (below_to H6.out H6.out.size (below_drewN _ _)).setCell (p := ⟨w.heap.size + 1 + 1 + 1, 0, none⟩) (by simp <;> omega) _, HT1.out⟩
    · have g1 := neInt t1
      have HN1 : Hid (loose1 cs s p x = false) := Lib.hid (decide_eq_false t1)
      clear t1
      by_cases t2 : diff (cell (turnedN cs) p &&& s) (2 ^ p) = cell (turnedN cs) x &&& s
      · have g2 := eqInt t2
        have HT1 : Hid (looseB cs s p = true) := Lib.hid (HY.out (by rw [HLA.out, HN1.out]; unfold loose1; rw [decide_eq_true t2]; rfl))
        clear t2
        gi_wp2_with fail
        refine region_quiet_round (by kernel_rfl) (by kernel_rfl) (by kernel_rfl) ?_
        repeat (gi_big_quiet_step (fail))
        refine wpQuietIn_nil ?_
        intro _ hw'
        obtain ⟨nq, hw''⟩ := hw'
        subst hw''
        gi_wp2_with fail
        exact ⟨(keeps_drewN _ W _).trans (keeps_set _ _ _ _ _), SameAt.setCell (heap_drewN _ _ _) (by omega) _, rfl, set_same ((heap_drewN _ _ _).trans H4.out), (below_to H6.out H6.out.size (below_drewN _ _)).setCell (p := ⟨w.heap.size + 1 + 1 + 1, 0, none⟩) (by simp <;> omega) _, HT1.out⟩
      · have g2 := neInt t2
        have HT1 : Hid (looseAt cs s p x = false) := Lib.hid (by rw [HLA.out, HN1.out]; unfold loose1; rw [decide_eq_false t2]; rfl)
        clear t2
        gi_wp2_with fail
        refine region_quiet_round (by kernel_rfl) (by kernel_rfl) (by kernel_rfl) ?_
        repeat (gi_big_quiet_step (fail))
        refine wpQuietIn_nil ?_
        intro _ hw'
        obtain ⟨nq, hw''⟩ := hw'
        subst hw''
        gi_wp2_with fail
        refine ⟨keeps_drewN _ W _, heap_drewN _ _ _, H1.out.drewN _, (heap_drewN _ _ _).trans H2.out, (heap_drewN _ _ _).trans H3.out, (heap_drewN _ _ _).trans H4.out, H5.out.drewN _, below_to H6.out H6.out.size (below_drewN _ _), fun q hq => ?_⟩
        rcases List.mem_append.1 hq with hq | hq
        · exact H7.out q hq
        · rw [List.mem_singleton.1 hq]; exact HT1.out
  case done =>
    rintro D W hD ⟨h1, h2, h3, h4, h5, h6, h7⟩ hK
    have hno : looseB cs s p = false := by
      rcases hl : looseB cs s p with _ | _
      · rfl
      · obtain ⟨q, hq, h⟩ := List.any_eq_true.1 hl
        rw [h7 q hq] at h; cases h
    have c3 := cell_of h4 (j := 0) rfl
    have f3 := free_of h4 0
    have HNO := Lib.hid hno
    have H4 := Lib.hid h4
    have H6 := Lib.hid h6
    clear h1 h2 h3 h4 h5 h6 h7 hno
    gi_wp2_with fail
    have hK2 : (W.setCell ⟨w.heap.size + 3, 0, none⟩ (.bool false)).heap[D]? = some (.deferred (some [])) := set_other hK (by omega)
    refine ⟨by simp, .inl ⟨_, _, rfl, run_takeDeferred hK2, ?_⟩⟩
    refine ⟨_, results_cell1 (g := w.heap.size + 3) rfl rfl (by kernel_rfl) (putObj_other (set_same H4.out) (by omega)), by rw [HNO.out], ?_⟩
    exact (H6.out.setCell (p := ⟨w.heap.size + 3, 0, none⟩) (by simp) _).trans (belowK_b (w := w) (Nat.le_refl _) _ D _ _ (by omega) hK2 rfl rfl)
  case stop =>
    rintro D c pre W hD hpre ⟨rfl, h2, h4, h5⟩ hK
    gi_wp2_with fail
    refine ⟨by simp, .inl ⟨_, _, rfl, run_takeDeferred hK, ?_⟩⟩
    refine ⟨_, results_cell1 (g := w.heap.size + 3) rfl rfl (by kernel_rfl) (putObj_other h2 (by omega)), by rw [h5], ?_⟩
    exact h4.trans (belowK_b (w := w) (Nat.le_refl _) _ D _ _ (by omega) hK rfl rfl)
end Go.Proofs.YtmagkcioplcidaeDoor

/- ply: core. -/
set_option linter.unusedVariables false
set_option linter.unusedSimpArgs false
namespace Go.Proofs.YtmagkcioplcidaeDoor
open Go.RowKit Go.Shelf
attribute [local go_sem] Oper.semAt_some

theorem firstsTo_next (cs : List Nat) (k : Nat) : firstsTo cs (k + 1) = if amongB (cell cs) k (cell cs k) = true then firstsTo cs k else firstsTo cs k ||| 2 ^ k := by
  have h : ((List.range k).all fun j => decide (cell cs j ≠ cell cs k)) = !amongB (cell cs) k (cell cs k) := by
    unfold amongB
    rw [List.not_any_eq_all_not]
    congr 1
    funext j
    by_cases e : cell cs j = cell cs k <;> simp [e]
  show gather (fun p => (List.range p).all fun k => decide (cell cs k ≠ cell cs p)) k ||| (if ((List.range k).all fun j => decide (cell cs j ≠ cell cs k)) = true then 2 ^ k else 0) = _
  rw [h]
  unfold firstsTo
  cases amongB (cell cs) k (cell cs k) <;> simp

set_option maxRecDepth 100000 in
set_option maxHeartbeats 3200000 in
theorem core_any (cs : List Nat) (w : World) (hc : Codes cs) (hT : Tab w) :
    Calls Tryd.prog 30 #[spV cs] w fun e w' => e = .returned (.int .u64 (coreN cs : Nat)) ∧ Below w.heap.size w w' := by
  have hn6 := hc.2.1
  have hCODES := Lib.hid hc
  clear hc
  refine (callsIn_wide (n := 20)).1 ?_
  refine callsIn_of_wp_marks Tryd.func30 rfl trivial ?_ rfl
  simp only [Tryd.ntmps30, List.size_toArray, List.length_cons, List.length_nil, Nat.reduceAdd, Nat.reduceSub, Array.replicate_succ, Array.replicate_zero, List.push_toArray, List.append_toArray, List.nil_append, List.cons_append]
  gi_wp2_with fail
  generalize hW0 : World.alloc (World.alloc w _) _ = W0
  have hbW : Below w.heap.size w W0 := by rw [← hW0]; exact ((Below.refl _ _).alloc (Nat.le_refl _) _).alloc (by simp) _
  have hb0 : SpF W0 w.heap.size cs.length (cell cs) := by rw [← hW0]; exact alloc_old (heap_alloc_new _ _)
  have hb1 : W0.heap[w.heap.size + 1]? = some (.cells #[.int .u64 0] 38) := by rw [← hW0]; exact heap_alloc_at _ _ _ (by simp)
  clear hW0
  gi_loopw [9] (fun i wr => ∃ k : Nat, k ≤ cs.length ∧ i = .int .i64 k ∧ SpF wr w.heap.size cs.length (cell cs) ∧ wr.heap[w.heap.size + 1]? = some (.cells #[.int .u64 (firstsTo cs k : Nat)] 38) ∧ Below w.heap.size w wr) (fun i _ => cs.length - (intOf i).toNat)
  case atStart => exact ⟨0, by omega, rfl, hb0, hb1, hbW⟩
  case round =>
    obtain ⟨k, hk, rfl, s0, s1, hbr⟩ := hrel
    clear hb0 hb1 hbW
    by_cases hlt : k < cs.length
    · have q1 := s0.cell (p := k) (by omega)
      have c1 := cell_of s1 (j := 0) rfl
      have f1 := free_of s1 0
      have k0 : (0 : Int) ≤ (k : Int) := by omega
      have k00 : ¬ (k : Int) < 0 := by omega
      have k1 : (k : Int) < (cs.length : Int) := by omega
      have k6 : (k : Int) < 6 := by omega
      have k7 : (k : Int) ≤ 6 := by omega
      have hnx := firstsTo_next cs k
      have S0 := Lib.hid s0
      have S1 := Lib.hid s1
      have HB := Lib.hid hbr
      clear s0 s1 hbr
      rcases ha : amongB (cell cs) k (cell cs k) with _ | _
      · have hcall : ∀ w0, SpF w0 w.heap.size cs.length (cell cs) → Calls Tryd.prog 42 #[.slice (some ⟨w.heap.size, 1, none⟩) k 6, .int .u64 (cell cs k)] w0 fun e w' => e = .returned (.bool false) ∧ w0 = w' := fun w0 h => by
          have := containsSet_any (cell cs) k (cell cs k) w.heap.size 6 cs.length w0 (by omega) h
          rwa [ha] at this
        rw [ha, if_neg (by simp)] at hnx
        have HCALL := Lib.hid hcall
        have HNX := Lib.hid hnx
        have hft := lt64_of (n := k) (by omega) (firsts_lt cs k)
        have hsh := shl_num k (by omega)
        have hor : bits .or .u64 (firstsTo cs k : Int) ((2 : Int) ^ k) = ((firstsTo cs k ||| 2 ^ k : Nat) : Int) := by
          have := u64_or (firstsTo cs k) (2 ^ k) (by omega) (by have := pow_lt64 (p := k) (by omega); omega)
          rwa [pow_int] at this
        clear hcall ha hnx
        gi_wp2_with fail
        refine wpIn_wide.2 ?_
        go_quiet ((go_at_call 42; exact (HCALL.out _ (S0.out.drewN _)).mono (fun e w' h => ⟨h.1, _, h.2.symm⟩)))
        gi_wp2_with fail
        refine region_then 4 rfl rfl rfl (by kernel_rfl) (by kernel_rfl) (by kernel_rfl) (by kernel_rfl) (by kernel_rfl) (by kernel_rfl) ?_
        dsimp only [List.dropLast]
        repeat (gi_big_quiet_step (fail))
        refine wpQuietIn_nil ?_
        intro _ hw'
        obtain ⟨nq2, hw''⟩ := hw'
        subst hw''
        go_simp
        go_at_K
        gi_wp2_with fail
        go_roundw
        case rel =>
          refine ⟨k + 1, by omega, by go_num, (S0.out.drewN _).other (by omega), ?_, (below_to HB.out HB.out.size (below_drewN _ _)).setCell (p := ⟨w.heap.size + 1, 0, none⟩) (by simp) _⟩
          rw [HNX.out]; exact set_same ((heap_drewN _ _ _).trans S1.out)
        case measure => simp [intOf]; omega
      · have hcall : ∀ w0, SpF w0 w.heap.size cs.length (cell cs) → Calls Tryd.prog 42 #[.slice (some ⟨w.heap.size, 1, none⟩) k 6, .int .u64 (cell cs k)] w0 fun e w' => e = .returned (.bool true) ∧ w0 = w' := fun w0 h => by
          have := containsSet_any (cell cs) k (cell cs k) w.heap.size 6 cs.length w0 (by omega) h
          rwa [ha] at this
        rw [ha, if_pos rfl] at hnx
        have HCALL := Lib.hid hcall
        have HNX := Lib.hid hnx
        clear hcall ha hnx
        gi_wp2_with fail
        refine wpIn_wide.2 ?_
        go_quiet ((go_at_call 42; exact (HCALL.out _ (S0.out.drewN _)).mono (fun e w' h => ⟨h.1, _, h.2.symm⟩)))
        gi_wp2_with fail
        go_roundw
        case rel => exact ⟨k + 1, by omega, by go_num, S0.out.drewN _, by rw [HNX.out]; exact (heap_drewN _ _ _).trans S1.out, below_to HB.out HB.out.size (below_drewN _ _)⟩
        case measure => simp [intOf]; omega
    · have hkn : k = cs.length := by omega
      have hfn : firstsTo cs k = firstsN cs := by rw [hkn]; rfl
      rw [hfn] at s1
      have hfl : firstsN cs < 2 ^ cs.length := firsts_lt cs _
      clear hfn
      gi_wp2_with fail
      refine wpIn_loop (fun a' w' => ∃ (s : Nat) (u2 u4 u5 u6 u7 u8 u9 u10 u11 u12 u13 u14 u15 u16 u17 u18 u19 u20 u21 u22 u23 u24 u25 u26 u27 u28 u29 u30 u31 u32 u33 u34 u35 u36 u37 u38 u39 u40 : Value) (ds : List Deferred), s < 2 ^ cs.length ∧ coreOf cs s = coreN cs ∧ SpF w' w.heap.size cs.length (cell cs) ∧ w'.heap[w.heap.size + 1]? = some (.cells #[.int .u64 (s : Nat)] 38) ∧ Below w.heap.size w w' ∧ Marks w.heap.size w'.heap.size ds w' ∧ a' = { tmps := #[spV cs, .pointer (some ⟨w.heap.size, 0, none⟩), u2, .pointer (some ⟨w.heap.size + 1, 0, none⟩), u4, u5, u6, u7, u8, u9, u10, u11, u12, u13, u14, u15, u16, u17, u18, u19, u20, u21, u22, u23, u24, u25, u26, u27, u28, u29, u30, u31, u32, u33, u34, u35, u36, u37, u38, u39, u40], defers := ds }) (fun _ w' => match w'.cell? ⟨w.heap.size + 1, 0, none⟩ with | some (.int _ c) => c.toNat | _ => 0) ⟨firstsN cs, _, _, _, _, _, _, _, _, _, _, _, _, _, _, _, _, _, _, _, _, _, _, _, _, _, _, _, _, _, _, _, _, _, _, _, _, _, _, [], hfl, rfl, s0, s1, hbr, trivial, rfl⟩ ?_
      rintro a' W ⟨s, u2, u4, u5, u6, u7, u8, u9, u10, u11, u12, u13, u14, u15, u16, u17, u18, u19, u20, u21, u22, u23, u24, u25, u26, u27, u28, u29, u30, u31, u32, u33, u34, u35, u36, u37, u38, u39, u40, ds, hs, hco, z0, z1, hbz, hmk, rfl⟩
      have h64 := lt64_of hn6 hs
      have c1 := cell_of z1 (j := 0) rfl
      have hb2 : w.heap.size + 2 ≤ W.heap.size := by have := heap_lt z1; omega
      have hal : Below W.heap.size W (W.alloc (.cells #[.int .i64 (-1)] 3)) := (Below.refl _ _).alloc (Nat.le_refl _) _
      have y0 := heap_alloc_new W (.cells #[.int .i64 (-1)] 3)
      have z0' := z0.below hal
      have z1' := (hal.block _ (heap_lt z1)).trans z1
      have hbz' := below_to hbz hbz.size hal
      have hmk' := hmk.below hal
      have hszA : (W.alloc (.cells #[.int .i64 (-1)] 3)).heap.size = W.heap.size + 1 := by simp
      have c1' := cell_of z1' (j := 0) rfl
      have HCO := Lib.hid hco
      have HC0 := Lib.hid c1
      clear z0 z1 hbz hmk c1 hal hco s0 s1 hbr
      gi_wp2_with fail
      generalize hWA : World.alloc W _ = WA at *
      generalize hB : W.heap.size = B at *
      clear hWA hB
      refine ⟨trivial, (callsIn_wide.2 (points_any s _)).mono ?_⟩
      rintro e w1 ⟨rfl, rfl⟩
      have hal : Below WA.heap.size WA (WA.alloc (.cells #[.int .u64 (s : Nat)] 38)) := (Below.refl _ _).alloc (Nat.le_refl _) _
      have hBs := heap_alloc_new WA (.cells #[.int .u64 (s : Nat)] 38)
      have x0 := z0'.below hal
      have x1 := (hal.block _ (heap_lt z1')).trans z1'
      have x2 := (hal.block _ (heap_lt y0)).trans y0
      have xb := below_to hbz' hbz'.size hal
      have xm := hmk'.below hal
      have hszB : (WA.alloc (.cells #[.int .u64 (s : Nat)] 38)).heap.size = B + 2 := by simp [hszA]
      rw [hszA] at hBs ⊢
      generalize hWB : World.alloc WA _ = WB at *
      have HB2 := Lib.hid hb2
      clear hWB hal z0' z1' y0 hbz' hmk' hszA c1'
      gi_wp2_with fail
      have hb2 := HB2.out
      refine range_pts (gf := 48) (Bs := B + 1) (s := s) rfl (enters_of Tryd.func48 (by kernel_rfl) rfl)
        (points_given s (B + 1) h64 19 (by omega) WB (by omega)) hBs rfl
        (fun pre W => SpF W w.heap.size cs.length (cell cs) ∧ W.heap[w.heap.size + 1]? = some (.cells #[.int .u64 (s : Nat)] 38) ∧ W.heap[B]? = some (.cells #[.int .i64 (-1)] 3) ∧ Below w.heap.size w W ∧ Marks w.heap.size B ds W ∧ B + 2 ≤ W.heap.size ∧ ∀ q ∈ pre, looseB cs s q = false)
        (fun c pre W => c = .exit 4 ∧ SpF W w.heap.size cs.length (cell cs) ∧ W.heap[w.heap.size + 1]? = some (.cells #[.int .u64 (s : Nat)] 38) ∧ (∃ x : Nat, x < 6 ∧ W.heap[B]? = some (.cells #[.int .i64 x] 3) ∧ firstLoose cs s = some x) ∧ Below w.heap.size w W ∧ Marks w.heap.size B ds W) ?a1 ?hI ?hIx ?hIB (fun pre W h => hT.below h.2.2.2.1) ⟨x0, x1, x2, xb, xm, by omega, by simp⟩ ?assign ?body ?done ?stop
      case assign =>
        intro l x W K hK
        gi_wp2
        exact hK
      case hI =>
        rintro s W W' row ⟨h1, h2, h3, h4, h5, h7, h6⟩ hg hr
        exact ⟨own_block hg hr (by omega) h1, own_block hg hr (by omega) h2, own_block hg hr (by omega) h3, h4.grown hg h4.size (fun k e => by have := (hr k e).1; omega), h5.grown hg (fun k e => by have := (hr k e).1; omega), Nat.le_trans h7 hg.size, h6⟩
      case hIx =>
        rintro c s W W' row ⟨h0, h1, h2, ⟨x, hx, h3, h3'⟩, h4, h5⟩ hg hr
        exact ⟨h0, own_block hg hr (by omega) h1, own_block hg hr (by omega) h2, ⟨x, hx, own_block hg hr (by omega) h3, h3'⟩, h4.grown hg h4.size (fun k e => by have := (hr k e).1; omega), h5.grown hg (fun k e => by have := (hr k e).1; omega)⟩
      case hIB =>
        rintro s W v ⟨h1, h2, h3, h4, h5, h7, h6⟩
        exact ⟨h1.other (by omega), set_other h2 (by omega), set_other h3 (by omega), h4.setCell (p := ⟨B + 1, 0, none⟩) (by simp; omega) _, h5.setCell _ _ _, by simpa using h7, h6⟩
      case body =>
        rintro l pre x W hl ⟨h1, h2, h3, h4, h5, h7, h6⟩ hpx
        obtain ⟨hxb, hx6⟩ := pre_bit h64 hpx
        obtain ⟨d0, d1, d2, d3, d4, d5, d6⟩ := h1.cells
        have c2 := cell_of h2 (j := 0) rfl
        have c3 := cell_of h3 (j := 0) rfl
        have f3 := free_of h3 0
        have hTW := hT.below h4
        have HPX := Lib.hid hpx
        have H1 := Lib.hid h1
        have H2 := Lib.hid h2
        have H3 := Lib.hid h3
        have H4 := Lib.hid h4
        have H5 := Lib.hid h5
        have H6 := Lib.hid h6
        have HTW := Lib.hid hTW
        have HW : Hid (B + 2 ≤ W.heap.size) := Lib.hid h7
        clear h1 h2 h3 h4 h5 h6 hpx hxb hTW
        gi_wp2_with fail
        refine ⟨trivial, (callsIn_wide.2 (loose_any cs s x _ hCODES.out hs hx6 HTW.out)).mono ?_⟩
        rintro e w2 ⟨rfl, hb3⟩
        have r1 := H1.out.below hb3
        have r2 := (hb3.block _ (heap_lt H2.out)).trans H2.out
        have r3 := (hb3.block _ (heap_lt H3.out)).trans H3.out
        have r4 := below_to H4.out H4.out.size hb3
        have r5 := H5.out.below hb3
        have hBs2 : SameAt (B + 1) W w2 := hb3.block _ (by have := HW.out; omega)
        have hkf : KeepsFrom WB.heap.size W w2 := ⟨hb3.size, fun k o _ hk _ => (hb3.block k (heap_lt hk)).trans hk⟩
        rcases hl2 : looseB cs s x with _ | _
        · have HL := Lib.hid hl2
          clear hl2 d0 d1 d2 d3 d4 d5 d6 c2 c3 f3
          gi_wp2_with fail
          refine ⟨hkf, hBs2, r1, r2, r3, r4, r5, Nat.le_trans HW.out hb3.size, fun q hq => ?_⟩
          rcases List.mem_append.1 hq with hq | hq
          · exact H6.out q hq
          · rw [List.mem_singleton.1 hq]; exact HL.out
        · have hfl2 : firstLoose cs s = some x := by
            unfold firstLoose
            obtain ⟨rest, hrest⟩ := HPX.out
            rw [← hrest, List.append_assoc, List.find?_append, List.find?_eq_none.2 (fun q hq => by rw [H6.out q hq]; simp)]
            simp [hl2]
          have HFL := Lib.hid hfl2
          have R1 := Lib.hid r1
          have R2 := Lib.hid r2
          have R3 := Lib.hid r3
          have R4 := Lib.hid r4
          have R5 := Lib.hid r5
          have c3' := cell_of r3 (j := 0) rfl
          have f3' := free_of r3 0
          clear hl2 hfl2 d0 d1 d2 d3 d4 d5 d6 c2 c3 f3 r1 r2 r3 r4 r5
          gi_wp2_with fail
          exact ⟨hkf.trans (keeps_set _ _ _ _ _), SameAt.setCell hBs2 (by omega) _, rfl, R1.out.other (by omega), set_other R2.out (by omega), ⟨x, hx6, set_same R3.out, HFL.out⟩, R4.out.setCell (p := ⟨B, 0, none⟩) (by simp; omega) _, R5.out.setCell _ _ _⟩
      case done =>
        rintro D W hD ⟨h1, h2, h3, h4, h5, h7, h6⟩ hK
        have hnone : firstLoose cs s = none := List.find?_eq_none.2 (fun q hq => by rw [h6 q hq]; simp)
        have hfin : s = coreN cs := by rw [← HCO.out]; exact (core_none hnone).symm
        have c2 := cell_of h2 (j := 0) rfl
        have c3 := cell_of h3 (j := 0) rfl
        have hm2 := h5.add (D := D) (by omega) (by omega) hK
        have HF := Lib.hid hfin
        have H4 := Lib.hid h4
        have HM := Lib.hid hm2
        clear h1 h2 h3 h4 h5 h6 hnone hfin hm2
        gi_wp2_with fail
        refine leave_marks _ _ _ HM.out fun w' hs => ?_
        exact ⟨_, results_tmp rfl _ _ _, by rw [← HF.out]; rfl, H4.out.trans hs.below⟩
      case stop =>
        rintro D c pre W hD hpre ⟨rfl, h1, h2, ⟨x, hx6, h3, hfl2⟩, h4, h5⟩ hK
        have c2 := cell_of h2 (j := 0) rfl
        have c3 := cell_of h3 (j := 0) rfl
        have f2 := free_of h2 0
        have hm2 := h5.add (D := D) (by omega) (by omega) hK
        have hm3 : Marks w.heap.size W.heap.size ({ target := .collected D, args := #[] } :: ds) W := hm2.mono (by have := heap_lt hK; omega)
        have hsh := shl_num x hx6
        have hpw := pow_lt64 hx6
        have hdf : bits .andNot .u64 (s : Int) ((2 : Int) ^ x) = ((diff s (2 ^ x) : Nat) : Int) := by
          have := u64_andNot s (2 ^ x) (by omega) (by omega)
          rwa [pow_int] at this
        have hlt := diff_lt_self (firstLoose_bit h64 hfl2).1
        have x0' : (0 : Int) ≤ (x : Int) := by omega
        have x00 : ¬ (x : Int) < 0 := by omega
        have x6 : (x : Int) < 6 := by omega
        have HC2 : Hid (coreOf cs (diff s (2 ^ x)) = coreN cs) := Lib.hid (by rw [← core_some h64 hfl2]; exact HCO.out)
        have HLT := Lib.hid hlt
        have HDS : Hid (diff s (2 ^ x) < 2 ^ cs.length) := Lib.hid (diff_lt hs)
        have H1 := Lib.hid h1
        have H2 := Lib.hid h2
        have H4 := Lib.hid h4
        have HM := Lib.hid hm3
        clear h1 h2 h3 h4 h5 hfl2 hm2 hm3 hlt
        gi_wp2_with fail
        refine region_then 4 rfl rfl rfl (by kernel_rfl) (by kernel_rfl) (by kernel_rfl) (by kernel_rfl) (by kernel_rfl) (by kernel_rfl) ?_
        dsimp only [List.dropLast]
        repeat (gi_big_quiet_step (fail))
        refine wpQuietIn_nil ?_
        intro _ hw'
        obtain ⟨nq2, hw''⟩ := hw'
        subst hw''
        go_simp
        refine ⟨⟨diff s (2 ^ x), _, _, _, _, _, _, _, _, _, _, _, _, _, _, _, _, _, _, _, _, _, _, _, _, _, _, _, _, _, _, _, _, _, _, _, _, _, _, _, HDS.out, HC2.out, (H1.out.drewN _).other (by omega), set_same ((heap_drewN _ _ _).trans H2.out), (below_to H4.out H4.out.size (below_drewN _ _)).setCell (p := ⟨w.heap.size + 1, 0, none⟩) (by simp) _, (HM.out.below (below_drewN _ _)).setCell _ _ _ |>.mono (by simp [size_drewN]), rfl⟩, ?_⟩
        rw [cell_of (set_same ((heap_drewN _ _ _).trans H2.out)) (j := 0) rfl, HC0.out]
        have := HLT.out
        simp
        omega
end Go.Proofs.YtmagkcioplcidaeDoor

/- ply: numbers, Core. -/
set_option linter.unusedVariables false
set_option linter.unusedSimpArgs false
namespace Go.Proofs.YtmagkcioplcidaeDoor
open Go.RowKit Go.Shelf
attribute [local go_sem] Oper.semAt_some

theorem append_intKIn {F : Fence} {n : Nat} {ops : Array Oper} {rest : List Oper} {o : Oper} {a : Act} {w0 w : World} {Q : Exit → Act → World → Prop} (hgd : o.guard = none) (s x : Operand)
    (ho : o.op = .call { callee := .builtin .append, args := #[s, x], argTypes := #[22, 22] }) {v : Value} {xs : List Int} (hc : Col w0 w v xs) (hs : a.eval s = v)
    (y : Int) (hx : a.eval x = .slice (some ⟨w.heap.size, 0, none⟩) 1 1) (hlen : xs.length ≤ 1000000000)
    (h : ∀ v' w', Col w0 w' v' (xs ++ [y]) → v' ≠ .slice none 0 0 → KeepNI w w' → KeepsFrom w.heap.size w w' → wpListIn F n Tryd.prog ops Q rest (a.put o.dst v') w') : wpListIn F n Tryd.prog ops Q (o :: rest) a (w.alloc (.cells #[.int .i64 y] 3)) := by
  obtain ⟨i0, hi, hz0, hz1, hz2⟩ := info_parts infoInt
  refine wpListIn_append_own _ hgd s x 22 ho w0.heap.size 3 i0 (.int .i64 0) 1 8 Tryd.underlying22 hi hz0 hz1 hz2 rfl (by decide) v xs.length (xs.map (Value.int .i64)) hs (hc.own.alloc _) ⟨w.heap.size, 0, none⟩ 1 1 [.int .i64 y] hx rfl (cell_one_new _ _ _) (by simp [Value.oneCell']) (by simp only [maxLen]; omega) (by omega) (by have := hc.below.size; simp; omega) ?_
  intro v' w' hown' hgrow hnil
  have keep : ∀ (k : Nat) (o' : Obj), w.heap[k]? = some o' → (∀ cs fr, o' ≠ .cells cs 3 fr) → w'.heap[k]? = some o' := fun k o' hk hno => by
    have hk2 : (w.alloc (.cells #[.int .i64 y] 3)).heap[k]? = some o' := alloc_old hk
    refine (hgrow.block k (heap_lt hk2) (fun e => ?_)).trans hk2
    obtain ⟨cs, fr, hr⟩ := hc.notInt k e.symm
    rw [hk] at hr
    exact hno cs fr (Option.some.inj hr)
  refine h v' w' ⟨by simpa using hown', ?_⟩ (fun e => by simpa using (hnil.1 e).2) keep ⟨Nat.le_trans (by simp) hgrow.size, fun k o' _ hk ho' => keep k o' hk (fun cs fr e => by subst e; cases ho')⟩
  refine (hc.below.alloc hc.below.size _).grown hgrow (by have := hc.below.size; simp; omega) ?_
  intro k hk
  exact (World.ownsRow.lt (hc.own.alloc (.cells #[.int .i64 y] 3)) k hk.symm.symm).1
theorem ofNats_snoc (l : List Nat) (x : Nat) : ofNats (l ++ [x]) = ofNats l ++ [(x : Int)] := by simp [ofNats]
theorem Col.ownNotInt {w0 w : World} {v : Value} {xs : List Int} (h : Col w0 w v xs) : v = .slice none 0 0 ∨ ∃ a l c, v = .slice a l c := by
  obtain ⟨_, h1 | ⟨g, cap, cur, h1, _⟩⟩ := h.own
  · exact .inl h1.1
  · exact .inr ⟨_, _, _, h1⟩
theorem Col.isSlice {w0 w : World} {v : Value} {xs : List Int} (h : Col w0 w v xs) : ∃ a l c, v = Value.slice a l c := by
  rcases h.ownNotInt with rfl | h
  · exact ⟨_, _, _, rfl⟩
  · exact h
theorem KeepNI.slices {w w' : World} {b : Nat} {c : Array Value} (h : KeepNI w w') (hs : w.heap[b]? = some (.cells c 22)) : w'.heap[b]? = some (.cells c 22) := h b _ hs (fun cs fr e => by
  injection e with _ h2 _
  exact absurd h2 (by decide))
/-- a cell of another type is written -/
theorem Col.setCell {w0 w : World} {v : Value} {xs : List Int} (h : Col w0 w v xs) {b : Nat} {t : TypeId} {cs : Array Value} (hb : w0.heap.size ≤ b) (hc : w.heap[b]? = some (.cells cs t)) (ht : t ≠ 3) (u : Value) : Col w0 (w.setCell ⟨b, 0, none⟩ u) v xs := by
  refine ⟨?_, h.below.setCell (p := ⟨b, 0, none⟩) hb u⟩
  obtain ⟨h1, h2 | ⟨g, cap, cur, h3, h4, h5, h6⟩⟩ := h.own
  · exact ⟨h1, .inl h2⟩
  · refine ⟨h1, .inr ⟨g, cap, cur, h3, h4, ?_, h6⟩⟩
    refine (heap_setCell_other _ _ _ _ (fun e => ?_)).trans h5
    have e' : g = b := e
    rw [← e', h5] at hc
    injection hc with hc
    injection hc with _ hc _
    exact ht hc.symm

theorem Col.putObj {w0 w : World} {v : Value} {xs : List Int} (h : Col w0 w v xs) {D : Nat} {ds : Option (List Deferred)} (hD : w0.heap.size ≤ D) (hK : w.heap[D]? = some (.deferred ds)) (o' : Obj) : Col w0 (w.putObj D o') v xs := by
  refine ⟨?_, h.below.trans (belowK_b (w := w0) (Nat.le_refl _) w D _ o' hD hK rfl rfl)⟩
  obtain ⟨h1, h2 | ⟨g, cap, cur, h3, h4, h5, h6⟩⟩ := h.own
  · exact ⟨h1, .inl h2⟩
  · refine ⟨h1, .inr ⟨g, cap, cur, h3, h4, putObj_other h5 (fun e => ?_), h6⟩⟩
    subst e
    rw [h5] at hK; cases hK
set_option maxRecDepth 100000 in
set_option maxHeartbeats 1600000 in
theorem appendSeq_any (wP w : World) (s : Nat) (hs : s < 64) (hb : Below wP.heap.size wP w) (hB : w.heap[wP.heap.size]? = some (.cells #[.int .u64 s] 38)) (hT : Tab wP) :
    Calls Tryd.prog 52 #[.slice none 0 0, .func (.func 48) #[] #[.pointer (some ⟨wP.heap.size, 0, none⟩)]] w fun e w' => ∃ v', e = .returned v' ∧ Col wP w' v' (ofNats (bitsOf s)) := by
  refine (callsIn_wide (n := 20)).1 ?_
  refine callsIn_of_wp_marks Tryd.func52 rfl trivial ?_ rfl
  simp only [Tryd.ntmps52, List.size_toArray, List.length_cons, List.length_nil, Nat.reduceAdd, Nat.reduceSub, Array.replicate_succ, Array.replicate_zero, List.push_toArray, List.append_toArray, List.nil_append, List.cons_append]
  have hlt := heap_lt hB
  gi_wp2_with fail
  generalize hW0 : World.alloc w _ = W0
  have hal : Below w.heap.size w W0 := by rw [← hW0]; exact (Below.refl _ _).alloc (Nat.le_refl _) _
  have hsz : W0.heap.size = w.heap.size + 1 := by rw [← hW0]; simp
  have b0 : W0.heap[w.heap.size]? = some (.cells #[.slice none 0 0] 22) := by rw [← hW0]; exact heap_alloc_new _ _
  have b1 := (hal.block _ hlt).trans hB
  have bb := below_to hb hb.size hal
  clear hW0
  generalize hB0 : w.heap.size = B at *
  clear hB0 hal hB
  refine range_pts (gf := 48) (Bs := wP.heap.size) (s := s) rfl (enters_of Tryd.func48 (by kernel_rfl) rfl)
    (points_given s wP.heap.size hs 19 (by omega) W0 (by omega)) b1 rfl
    (fun pre W => ∃ v, W.heap[B]? = some (.cells #[v] 22) ∧ Col wP W v (ofNats pre) ∧ (∃ c, W.heap[wP.heap.size]? = some (.cells c 38)))
    (fun c pre W => False) ?a1 ?hI (fun c s W W' row h _ _ => h) ?hIB (fun pre W h => by obtain ⟨v, _, h2, _⟩ := h; exact hT.below h2.below) ⟨_, b0, ⟨World.ownsRow_nil _ _ _ _, bb⟩, _, b1⟩ ?assign ?body ?done ?stop
  case assign =>
    intro l x W K hK
    gi_wp2
    exact hK
  case hI =>
    rintro s W W' row ⟨v, h1, h2, c, h3⟩ hg hr
    refine ⟨v, own_cells hg hr h1, ⟨?_, h2.below.grown hg h2.below.size (fun k e => by have := (hr k e).1; omega)⟩, c, own_cells hg hr h3⟩
    obtain ⟨g1, g2 | ⟨g, cap, cur, g3, g4, g5, g6⟩⟩ := h2.own
    · exact ⟨g1, .inl g2⟩
    · exact ⟨g1, .inr ⟨g, cap, cur, g3, g4, own_cells hg hr g5, g6⟩⟩
  case hIB =>
    rintro s W v ⟨v0, h1, h2, c, h3⟩
    exact ⟨v0, set_other h1 (by omega), h2.setCell (Nat.le_refl _) h3 (by decide) _, c.setIfInBounds 0 v, heap_setCell_same _ _ 0 _ _ v h3⟩
  case body =>
    rintro l pre x W hl ⟨v, h1, h2, c, h3⟩ hpx
    have c1 := cell_of h1 (j := 0) rfl
    have HL : Hid ((ofNats pre).length ≤ 1000000000) := Lib.hid (by
      rw [ofNats_len]
      have h4 := hpx.length_le
      have h5 : (bitsOf s).length ≤ 6 := by unfold bitsOf; exact Nat.le_trans (List.length_filter_le _ _) (by simp)
      simp at h4; omega)
    have H1 := Lib.hid h1
    have H2 := Lib.hid h2
    have H3 := Lib.hid h3
    have hf := free_of h1 0
    have hbl : B < W.heap.size := heap_lt h1
    obtain ⟨va, vl, vc, rfl⟩ := h2.isSlice
    clear h1 h2 h3 hpx
    gi_wp2_with (gi_at_builtin; refine append_intKIn rfl _ _ rfl H2.out rfl _ rfl HL.out ?_; intro v' w' hcol' hne hkeep hkf; obtain ⟨va2, vl2, vc2, rfl⟩ := hcol'.isSlice; have H4 := Lib.hid (hkeep.slices H1.out); have c1' := cell_of H4.out (j := 0) rfl; have f1' := free_of H4.out 0)
    obtain ⟨c, h3⟩ := (⟨c, H3.out⟩ : ∃ c, W.heap[wP.heap.size]? = some (.cells c 38))
    have h3' := hkeep.set h3
    refine ⟨(KeepsFrom.trans ⟨hkf.size, fun k o hk h ho => ?_⟩ (keeps_set _ _ _ _ _)), SameAt.setCell (h3'.trans h3.symm) (by omega) _, _, set_same H4.out, ?_, _, set_other h3' (by omega)⟩
    · exact hkeep k o h (fun cs fr e => by subst e; cases ho)
    · rw [ofNats_snoc]
      exact hcol'.setCell (by omega) H4.out (by decide) _
  case done =>
    rintro D W hD ⟨v, h1, h2, h3⟩ hK
    have c1 := cell_of h1 (j := 0) rfl
    obtain ⟨va, vl, vc, rfl⟩ := h2.isSlice
    have H2 := Lib.hid h2
    clear h1 h2 h3
    gi_wp2_with fail
    refine ⟨by simp, .inl ⟨_, _, rfl, run_takeDeferred hK, ?_⟩⟩
    refine ⟨_, results_tmp rfl _ _ _, _, rfl, ?_⟩
    exact H2.out.putObj (by omega) hK _
  case stop =>
    rintro D c pre W hD hpre h
    exact h.elim
theorem collect_any (wP w : World) (s : Nat) (hs : s < 64) (hb : Below wP.heap.size wP w) (hB : w.heap[wP.heap.size]? = some (.cells #[.int .u64 s] 38)) (hT : Tab wP) :
    Calls Tryd.prog 39 #[.func (.func 48) #[] #[.pointer (some ⟨wP.heap.size, 0, none⟩)]] w fun e w' => ∃ v', e = .returned v' ∧ Col wP w' v' (ofNats (bitsOf s)) := by
  go_enter Tryd.func39, Tryd.ntmps39
  go_wp2_with fail
  refine (appendSeq_any wP w s hs hb hB hT).mono ?_
  rintro e w' ⟨v', rfl, hcol⟩
  obtain ⟨va, vl, vc, rfl⟩ := hcol.isSlice
  go_wp2_with fail
  go_ret
  exact ⟨_, rfl, hcol⟩
theorem numbers_any (s : Nat) (w : World) (hs : s < 64) (hT : Tab w) :
    Calls Tryd.prog 24 #[.int .u64 s] w fun e w' => ∃ v', e = .returned v' ∧ Col w w' v' (ofNats (bitsOf s)) := by
  go_enter Tryd.func24, Tryd.ntmps24
  go_wp2_with fail
  refine (points_any s _).mono ?_
  rintro e w1 ⟨rfl, rfl⟩
  go_wp2_with fail
  refine (collect_any w _ s hs ((Below.refl _ _).alloc (Nat.le_refl _) _) (heap_alloc_new _ _) hT).mono ?_
  rintro e w' ⟨v', rfl, hcol⟩
  obtain ⟨va, vl, vc, rfl⟩ := hcol.isSlice
  go_wp2_with fail
  go_ret
  exact ⟨_, rfl, hcol⟩
theorem coreN_lt {cs : List Nat} (hc : Codes cs) : coreN cs < 64 :=
  (core_ind (P := fun _ => True) (fun _ _ _ _ _ _ => trivial) _ _ (Nat.le_refl _) (lt64_of hc.2.1 (firsts_lt cs _)) trivial).2.2
set_option maxRecDepth 100000 in
set_option maxHeartbeats 800000 in
theorem Core_yes (v : Value) (cs : List Nat) (w : World) (hr : Reads w v (ofNats cs)) (hc : Codes cs) (hsp : spaceB cs = true) (hT : Tab w) :
    Calls Tryd.prog 11 #[v] w fun e w' => ∃ v', e = .returned (.tuple #[v', .int .i64 0]) ∧ Col w w' v' (ofNats (bitsOf (coreN cs))) := by
  have hr0 := hr
  obtain ⟨a, cap, rfl, _, _, _⟩ := hr.open
  clear hr
  go_enter Tryd.func11, Tryd.ntmps11
  go_wp2_with fail
  refine (newSpace_yes _ cs _ hr0 hc hsp hT).mono ?_
  rintro e w1 ⟨rfl, hb1⟩
  obtain ⟨hs1, hb2⟩ := lay_sp hb1 cs.length (cell cs)
  have hT2 := hT.below hb2
  go_wp2_with fail
  generalize hW : World.alloc w1 _ = W at *
  clear hW
  obtain ⟨d0, d1, d2, d3, d4, d5, d6⟩ := hs1.cells
  clear hs1
  go_wp2_with fail
  refine (core_any cs _ hc hT2).mono ?_
  rintro e w2 ⟨rfl, hb3⟩
  have hb4 := below_to hb2 hb2.size hb3
  have hT3 := hT2.below hb3
  clear d0 d1 d2 d3 d4 d5 d6
  go_wp2_with fail
  refine (numbers_any (coreN cs) _ (coreN_lt hc) hT3).mono ?_
  rintro e w3 ⟨v', rfl, hcol⟩
  obtain ⟨va, vl, vc, rfl⟩ := hcol.isSlice
  go_wp2_with fail
  go_ret2
  exact ⟨_, rfl, hcol.lower hb4⟩
set_option maxRecDepth 100000 in
theorem Core_no (v : Value) (l : List Int) (w : World) (hr : Reads w v l) (h : spL l = false) (hT : Tab w) :
    Calls Tryd.prog 11 #[v] w fun e w' => e = .returned (.tuple #[.slice none 0 0, .int .i64 2]) ∧ Below w.heap.size w w' := by
  have hr0 := hr
  obtain ⟨a, cap, rfl, _, _, _⟩ := hr.open
  clear hr
  go_enter Tryd.func11, Tryd.ntmps11
  go_wp2_with fail
  refine (newSpace_no _ l _ hr0 h hT).mono ?_
  rintro e w1 ⟨n, c, rfl, hb1⟩
  obtain ⟨hs1, hb2⟩ := lay_sp hb1 n c
  go_wp2_with fail
  go_ret2
  exact ⟨rfl, hb2⟩
end Go.Proofs.YtmagkcioplcidaeDoor

/- Maps that a call makes, by the list of what was put into them. -/
set_option linter.unusedVariables false
set_option linter.unusedSimpArgs false
namespace Go.Proofs.YtmagkcioplcidaeDoor
open Go.RowKit

/-- where a key stands in a list of keys, with what the entry holds -/
def findSpec {α : Type} [DecidableEq α] (a : α) : List α → List MapEntry → Nat → Option (Nat × Value)
  | k :: ks, e :: es, i => if a = k then some (i, e.val) else findSpec a ks es (i + 1)
  | _, _, _ => none
theorem findSpec_none {α : Type} [DecidableEq α] {a : α} : ∀ {ks : List α} {es : List MapEntry} {i : Nat}, a ∉ ks → findSpec a ks es i = none
  | [], _, _, _ => rfl
  | _ :: _, [], _, _ => rfl
  | k :: ks, e :: es, i, h => by
    simp only [List.mem_cons, not_or] at h
    rw [findSpec, if_neg h.1]; exact findSpec_none h.2
theorem findSpec_some {α : Type} [DecidableEq α] {a : α} : ∀ {ks : List α} {es : List MapEntry} {i : Nat}, a ∈ ks → es.length = ks.length → ∃ j, findSpec a ks es i = some (i + j, (es.getD j default).val) ∧ ks[j]? = some a
  | [], _, _, h, _ => by simp at h
  | k :: ks, [], _, _, hl => by simp at hl
  | k :: ks, e :: es, i, h, hl => by
    by_cases hk : a = k
    · subst hk; exact ⟨0, by simp [findSpec], rfl⟩
    · have h' : a ∈ ks := by simpa [hk] using h
      obtain ⟨j, h1, h2⟩ := findSpec_some (i := i + 1) h' (by simpa using hl)
      exact ⟨j + 1, by rw [findSpec, if_neg hk, h1]; simp [Nat.add_assoc, Nat.add_comm 1 j], by simpa using h2⟩

/-- how the keys of a map are told -/
structure KeyOK (kt : TypeId) {α : Type} [DecidableEq α] (ek : α → Value) : Prop where
  check : ∀ a em w, (Instr.checkKey em 10000 kt (ek a)).run Tryd.prog w = .ok () w
  find : ∀ a (es : List MapEntry) (ks : List α) w, es.map (·.key) = ks.map ek → (Instr.findKey kt (ek a) es).run Tryd.prog w = .ok (findSpec a ks es 0) w

/-- block b is a map that holds just these keys, with these elements -/
def MapIs {α : Type} (ek : α → Value) (w : World) (b : Nat) (kvs : List (α × Value)) : Prop :=
  ∃ es clock, w.heap[b]? = some (.map es clock) ∧ es.toList.map (·.key) = kvs.map (fun p => ek p.1) ∧ es.toList.map (·.val) = kvs.map (·.2)

theorem MapIs.made {α : Type} (ek : α → Value) (w : World) : MapIs ek (w.alloc (.map #[] 0)) w.heap.size [] := ⟨#[], 0, heap_alloc_new _ _, rfl, rfl⟩
theorem MapIs.of_block {α : Type} {ek : α → Value} {w w' : World} {b : Nat} {kvs : List (α × Value)} (h : MapIs ek w b kvs) (hb : w'.heap[b]? = w.heap[b]?) : MapIs ek w' b kvs := by
  obtain ⟨es, clock, h1, h2⟩ := h
  exact ⟨es, clock, hb.trans h1, h2⟩
theorem MapIs.lt {α : Type} {ek : α → Value} {w : World} {b : Nat} {kvs : List (α × Value)} (h : MapIs ek w b kvs) : b < w.heap.size := by
  obtain ⟨es, clock, h1, h2⟩ := h
  exact (Array.getElem?_eq_some_iff.1 h1).1

section
variable {α : Type} [DecidableEq α] {ek : α → Value} {w : World} {b : Nat} {kvs : List (α × Value)} {t kt et : TypeId}

theorem run_lookup_no (K : KeyOK kt ek) (ht : Tryd.prog.underlying t = some (.map kt et)) {z : Value} (hz : (zeroValue et).run Tryd.prog w = .ok z w) (h : MapIs ek w b kvs) {a : α} (ha : a ∉ kvs.map (·.1)) (ok : Bool) :
    (Instr.lookup t (.map (some b)) (ek a) ok).run Tryd.prog w = .ok (if ok then .tuple #[z, .bool false] else z) w := by
  obtain ⟨es, clock, h1, h2, h3⟩ := h
  have hf := K.find a es.toList (kvs.map (·.1)) w (by rw [h2, List.map_map]; rfl)
  rw [findSpec_none ha] at hf
  simp only [Instr.lookup, getObj, Sem.run_bind, run_underlying ht, Result.andThen_ok, Sem.run, h1, Sem.run_pure, K.check, hf, hz]

theorem find_yes (K : KeyOK kt ek) {es : Array MapEntry} (h2 : es.toList.map (·.key) = kvs.map (fun p => ek p.1)) (h3 : es.toList.map (·.val) = kvs.map (·.2)) {a : α} {v : Value} (hn : (kvs.map (·.1)).Nodup) (ha : (a, v) ∈ kvs) :
    ∃ j, (Instr.findKey kt (ek a) es.toList).run Tryd.prog w = .ok (some (j, v)) w := by
  have hf := K.find a es.toList (kvs.map (·.1)) w (by rw [h2, List.map_map]; rfl)
  have hl : es.toList.length = kvs.length := by have := congrArg List.length h3; simpa using this
  obtain ⟨j, h4, h5⟩ := findSpec_some (i := 0) (es := es.toList) (List.mem_map_of_mem (f := (·.1)) ha) (by simpa using hl)
  suffices hv : (es.toList.getD j default).val = v by rw [h4, hv] at hf; exact ⟨_, hf⟩
  obtain ⟨p, hp, hpa⟩ : ∃ p, kvs[j]? = some p ∧ p.1 = a := by simpa using h5
  obtain ⟨hj, hp'⟩ := List.getElem?_eq_some_iff.1 hp
  obtain ⟨i, hi, hi'⟩ := List.getElem_of_mem ha
  have hij : i = j := by
    refine (List.getElem_inj (xs := kvs.map (·.1)) (h₀ := by simpa using hi) (h₁ := by simpa using hj) hn).1 ?_
    simp [hi', hp', hpa]
  subst hij
  have hpv : p.2 = v := by rw [hi'] at hp'; rw [← hp']
  have : (es.toList.map (·.val))[i]? = some v := by rw [h3]; simp [hp, hpv]
  have hil : i < es.toList.length := by omega
  rw [List.getElem?_map, List.getElem?_eq_getElem hil] at this
  simp only [Option.map_some, Option.some.injEq] at this
  rw [List.getD_eq_getElem?_getD, List.getElem?_eq_getElem hil, Option.getD_some, this]

theorem run_lookup_yes (K : KeyOK kt ek) (ht : Tryd.prog.underlying t = some (.map kt et)) (h : MapIs ek w b kvs) {a : α} {v : Value} (hn : (kvs.map (·.1)).Nodup) (ha : (a, v) ∈ kvs) (ok : Bool) :
    (Instr.lookup t (.map (some b)) (ek a) ok).run Tryd.prog w = .ok (if ok then .tuple #[v, .bool true] else v) w := by
  obtain ⟨es, clock, h1, h2, h3⟩ := h
  obtain ⟨j, hf⟩ := find_yes (w := w) K h2 h3 hn ha
  simp only [Instr.lookup, getObj, Sem.run_bind, run_underlying ht, Result.andThen_ok, Sem.run, h1, Sem.run_pure, K.check, hf]

theorem run_mapUpdate_new (K : KeyOK kt ek) (ht : Tryd.prog.underlying t = some (.map kt et)) (h : MapIs ek w b kvs) {a : α} (ha : a ∉ kvs.map (·.1)) (v : Value) :
    ∃ w', (Instr.mapUpdate t (.map (some b)) (ek a) v).run Tryd.prog w = .ok () w' ∧ MapIs ek w' b (kvs ++ [(a, v)]) ∧ w.grownBy w' (some b) := by
  obtain ⟨es, clock, h1, h2, h3⟩ := h
  have hf := K.find a es.toList (kvs.map (·.1)) w (by rw [h2, List.map_map]; rfl)
  rw [findSpec_none ha] at hf
  have hb := (Array.getElem?_eq_some_iff.1 h1).1
  refine ⟨{ w with heap := w.heap.setIfInBounds b (.map (es.push { key := ek a, val := v, born := clock }) (clock + 1)) }, ?_, ⟨es.push { key := ek a, val := v, born := clock }, clock + 1, ?_, ?_, ?_⟩, ⟨rfl, rfl, rfl, by simp, fun k hk hne => ?_⟩⟩
  · simp only [Instr.mapUpdate, getObj, setObj, Sem.run_bind, run_underlying ht, Result.andThen_ok, Sem.run, h1, Sem.run_pure, K.check, hf]
  · simp [hb]
  · simp [h2]
  · simp [h3]
  · have : ¬ b = k := fun e => hne (by rw [e])
    simp [Array.getElem?_setIfInBounds, this]
end

/-! ### at the operation, for the walk -/
section
variable {α : Type} [DecidableEq α] {ek : α → Value} {w : World} {b : Nat} {kvs : List (α × Value)} {t kt et : TypeId} {ops : Array Oper} {rest : List Oper} {o : Oper} {a : Act} {Q : Exit → Act → World → Prop}

theorem wpList_op {v : Value} (hg : o.guard = none) {s : Sem Value} (he : execOp a.eval o = (do pure (.value (← s)))) {w' : World} (hs : s.run Tryd.prog w = .ok v w') (h : wpList Tryd.prog ops Q rest (a.put o.dst v) w') : wpList Tryd.prog ops Q (o :: rest) a w := by
  refine wpList_plain hg fun K' hK' => ?_
  unfold Oper.wp
  rw [he]
  simp only [Sem.run_bind, hs, Result.andThen_ok, Sem.run_pure]
  exact hK' _ _ h
theorem wpList_opu (hg : o.guard = none) {s : Sem Unit} (he : execOp a.eval o = (do s; pure .skip)) {w' : World} (hs : s.run Tryd.prog w = .ok () w') (h : wpList Tryd.prog ops Q rest (a.put o.dst undef) w') : wpList Tryd.prog ops Q (o :: rest) a w := by
  refine wpList_plain hg fun K' hK' => ?_
  unfold Oper.wp
  rw [he]
  simp only [Sem.run_bind, hs, Result.andThen_ok, Sem.run_pure]
  exact hK' _ _ h

theorem map_lookup_no (hg : o.guard = none) (m x : Operand) (ok : Bool) (hop : o.op = .lookup t m x ok) (K : KeyOK kt ek) (ht : Tryd.prog.underlying t = some (.map kt et)) {z : Value} (hz : (zeroValue et).run Tryd.prog w = .ok z w)
    (hm : a.eval m = .map (some b)) (h : MapIs ek w b kvs) (k : α) (hx : a.eval x = ek k) (hk : k ∉ kvs.map (·.1)) (hK : wpList Tryd.prog ops Q rest (a.put o.dst (if ok then .tuple #[z, .bool false] else z)) w) : wpList Tryd.prog ops Q (o :: rest) a w :=
  wpList_op hg (by simp [execOp, hop, hm, hx]) (run_lookup_no K ht hz h hk ok) hK
theorem map_lookup_yes (hg : o.guard = none) (m x : Operand) (ok : Bool) (hop : o.op = .lookup t m x ok) (K : KeyOK kt ek) (ht : Tryd.prog.underlying t = some (.map kt et))
    (hm : a.eval m = .map (some b)) (h : MapIs ek w b kvs) (k : α) (v : Value) (hx : a.eval x = ek k) (hn : (kvs.map (·.1)).Nodup) (hk : (k, v) ∈ kvs) (hK : wpList Tryd.prog ops Q rest (a.put o.dst (if ok then .tuple #[v, .bool true] else v)) w) : wpList Tryd.prog ops Q (o :: rest) a w :=
  wpList_op hg (by simp [execOp, hop, hm, hx]) (run_lookup_yes K ht h hn hk ok) hK
theorem map_update_new (hg : o.guard = none) (m x y : Operand) (hop : o.op = .mapUpdate t m x y) (K : KeyOK kt ek) (ht : Tryd.prog.underlying t = some (.map kt et))
    (hm : a.eval m = .map (some b)) (h : MapIs ek w b kvs) (k : α) (v : Value) (hx : a.eval x = ek k) (hy : a.eval y = v) (hk : k ∉ kvs.map (·.1))
    (hK : ∀ w', MapIs ek w' b (kvs ++ [(k, v)]) → w.grownBy w' (some b) → wpList Tryd.prog ops Q rest (a.put o.dst undef) w') : wpList Tryd.prog ops Q (o :: rest) a w := by
  obtain ⟨w', h1, h2, h3⟩ := run_mapUpdate_new K ht h hk v
  exact wpList_opu hg (by simp [execOp, hop, hm, hx, hy]) h1 (hK w' h2 h3)

variable {F : Fence} {nF : Nat}
theorem wpListIn_op {v : Value} (hg : o.guard = none) (hd : ∀ c, o.op ≠ .defer c) {s : Sem Value} (ha : o.about Tryd.prog w a.eval = none) (he : execOp a.eval o = (do pure (.value (← s)))) {w' : World} (hs : s.run Tryd.prog w = .ok v w') (h : wpListIn F nF Tryd.prog ops Q rest (a.put o.dst v) w') : wpListIn F nF Tryd.prog ops Q (o :: rest) a w := by
  refine wpListIn_plain hg fun K' hK' => ?_
  unfold Oper.wpIn
  refine ⟨by simp [ha], ?_⟩
  rw [Oper.semAt_plain F _ _ hd, he]
  simp only [Sem.run_bind, hs, Result.andThen_ok, Sem.run_pure]
  exact hK' _ _ h
theorem wpListIn_opu (hg : o.guard = none) (hd : ∀ c, o.op ≠ .defer c) {s : Sem Unit} (ha : o.about Tryd.prog w a.eval = none) (he : execOp a.eval o = (do s; pure .skip)) {w' : World} (hs : s.run Tryd.prog w = .ok () w') (h : wpListIn F nF Tryd.prog ops Q rest (a.put o.dst undef) w') : wpListIn F nF Tryd.prog ops Q (o :: rest) a w := by
  refine wpListIn_plain hg fun K' hK' => ?_
  unfold Oper.wpIn
  refine ⟨by simp [ha], ?_⟩
  rw [Oper.semAt_plain F _ _ hd, he]
  simp only [Sem.run_bind, hs, Result.andThen_ok, Sem.run_pure]
  exact hK' _ _ h

theorem map_lookup_no_in (hg : o.guard = none) (m x : Operand) (ok : Bool) (hop : o.op = .lookup t m x ok) (K : KeyOK kt ek) (ht : Tryd.prog.underlying t = some (.map kt et)) {z : Value} (hz : (zeroValue et).run Tryd.prog w = .ok z w)
    (hm : a.eval m = .map (some b)) (h : MapIs ek w b kvs) (k : α) (hx : a.eval x = ek k) (hk : k ∉ kvs.map (·.1)) (hK : wpListIn F nF Tryd.prog ops Q rest (a.put o.dst (if ok then .tuple #[z, .bool false] else z)) w) : wpListIn F nF Tryd.prog ops Q (o :: rest) a w :=
  wpListIn_op hg (by rw [hop]; intro c h; cases h) (by simp [Oper.about, hop]) (by simp [execOp, hop, hm, hx]) (run_lookup_no K ht hz h hk ok) hK
theorem map_lookup_yes_in (hg : o.guard = none) (m x : Operand) (ok : Bool) (hop : o.op = .lookup t m x ok) (K : KeyOK kt ek) (ht : Tryd.prog.underlying t = some (.map kt et))
    (hm : a.eval m = .map (some b)) (h : MapIs ek w b kvs) (k : α) (v : Value) (hx : a.eval x = ek k) (hn : (kvs.map (·.1)).Nodup) (hk : (k, v) ∈ kvs) (hK : wpListIn F nF Tryd.prog ops Q rest (a.put o.dst (if ok then .tuple #[v, .bool true] else v)) w) : wpListIn F nF Tryd.prog ops Q (o :: rest) a w :=
  wpListIn_op hg (by rw [hop]; intro c h; cases h) (by simp [Oper.about, hop]) (by simp [execOp, hop, hm, hx]) (run_lookup_yes K ht h hn hk ok) hK
theorem map_update_new_in (hg : o.guard = none) (m x y : Operand) (hop : o.op = .mapUpdate t m x y) (K : KeyOK kt ek) (ht : Tryd.prog.underlying t = some (.map kt et))
    (hm : a.eval m = .map (some b)) (h : MapIs ek w b kvs) (k : α) (v : Value) (hx : a.eval x = ek k) (hy : a.eval y = v) (hk : k ∉ kvs.map (·.1))
    (hK : ∀ w', MapIs ek w' b (kvs ++ [(k, v)]) → w.grownBy w' (some b) → wpListIn F nF Tryd.prog ops Q rest (a.put o.dst undef) w') : wpListIn F nF Tryd.prog ops Q (o :: rest) a w := by
  obtain ⟨w', h1, h2, h3⟩ := run_mapUpdate_new K ht h hk v
  exact wpListIn_opu hg (by rw [hop]; intro c h; cases h) (by simp [Oper.about, hop]) (by simp [execOp, hop, hm, hx, hy]) h1 (hK w' h2 h3)
end

section
variable {w : World} {ops : Array Oper} {rest : List Oper} {o : Oper} {a : Act} {Q : Exit → Act → World → Prop} {F : Fence} {nF : Nat}
/-- a whole array or struct is stored into its variable, inside a fence -/
theorem store_row_in (hgd : o.guard = none) (ty : TypeId) (x y : Operand) (ho : o.op = .store ty x y)
    (g : Nat) (cells : Array Value) (hx : a.eval x = .pointer (some ⟨g, 0, none⟩)) (hy : a.eval y = .agg cells)
    (t : TypeId) (old : Array Value) (hg : w.heap[g]? = some (.cells old t (0, 0))) (hi : (Tryd.prog.info? ty).map (·.size) = some cells.size)
    (hold : old.size = cells.size) (h1 : cells.all (·.oneCell') = true)
    (h : wpListIn F nF Tryd.prog ops Q rest (a.put o.dst undef) (w.setRow g cells)) : wpListIn F nF Tryd.prog ops Q (o :: rest) a w :=
  wpListIn_opu hgd (by rw [ho]; intro c h; cases h) (by simp [Oper.about, ho]) (s := Instr.storeAt ty (.pointer (some ⟨g, 0, none⟩)) (.agg cells)) (by simp [execOp, ho, hx, hy])
    (by simp only [Instr.storeAt, Instr.sureAddr, Sem.run_bind, Sem.run_pure, Result.andThen_ok, run_storeVar_row w g t ty old cells hg hi hold h1]) h
end
theorem setRow_old {w : World} {k i : Nat} {cs : Array Value} {o : Option Obj} (h : w.heap[k]? = o) (hne : k ≠ i) : (w.setRow i cs).heap[k]? = o := (setRow_other w i k cs hne).trans h
theorem setRow_same {w : World} {k : Nat} {cs old : Array Value} {t : TypeId} (h : w.heap[k]? = some (.cells old t (0, 0))) : (w.setRow k cs).heap[k]? = some (.cells cs t (0, 0)) := setRow_heap w k old cs t _ h
theorem keeps_setRow {w : World} {k : Nat} {cs old : Array Value} {t : TypeId} (h : w.heap[k]? = some (.cells old t (0, 0))) : KeepsOthers w (w.setRow k cs) :=
  ⟨by simp [World.setRow], fun i o hi ho => (setRow_other w k i cs (by rintro rfl; rw [h] at hi; cases hi; cases ho)).trans hi⟩

theorem run_findAsking {α : Type} [DecidableEq α] {ek : α → Value} {kt : TypeId} (heq : ∀ a b w, (Op.equal kt (ek a) (ek b)).run Tryd.prog w = .ok (decide (a = b)) w) (a : α) :
    ∀ (es : List MapEntry) (ks : List α) (i : Nat) (w : World), es.map (·.key) = ks.map ek → (Instr.findAsking kt (ek a) es i).run Tryd.prog w = .ok (findSpec a ks es i) w
  | [], [], _, _, _ => by simp [Instr.findAsking, findSpec]
  | [], k :: ks, _, _, h => by simp at h
  | e :: es, [], _, _, h => by simp at h
  | e :: es, k :: ks, i, w, h => by
    simp only [List.map_cons, List.cons.injEq] at h
    have ih := run_findAsking heq a es ks (i + 1) w h.2
    simp only [Instr.findAsking, Sem.run_bind, h.1, heq, Result.andThen_ok, findSpec]
    by_cases hk : a = k
    · simp [hk]
    · simp only [hk, decide_false, if_false, Bool.false_eq_true]; exact ih
end Go.Proofs.YtmagkcioplcidaeDoor

/- ply: the number of the chains that end at a point. -/
set_option linter.unusedVariables false
set_option linter.unusedSimpArgs false
namespace Go.Proofs.YtmagkcioplcidaeDoor
open Go.RowKit Go.Shelf
attribute [local go_sem] Oper.semAt_some

/-! ### plain: a sum over the points of a set -/
theorem sumTo_list (h : Nat → Int) : ∀ n, sumTo h n = ((List.range n).map h).sum
  | 0 => rfl
  | n + 1 => by unfold sumTo; rw [sumTo_list h n, List.range_succ, List.map_append, List.sum_append]; simp
theorem sumTo_far {h : Nat → Int} {n : Nat} : ∀ d, (∀ i, n ≤ i → h i = 0) → sumTo h (n + d) = sumTo h n
  | 0, _ => rfl
  | d + 1, hz => by
    show sumTo h (n + d) + h (n + d) = sumTo h n
    rw [sumTo_far d hz, hz _ (by omega)]; omega
theorem filter_sum (P : Nat → Bool) (h : Nat → Int) : ∀ l : List Nat, ((l.filter P).map h).sum = (l.map fun q => if P q = true then h q else 0).sum
  | [] => rfl
  | a :: l => by
    by_cases hp : P a = true
    · rw [List.filter_cons_of_pos hp]; simp [hp, filter_sum P h l]
    · rw [List.filter_cons_of_neg hp]; simp [hp, filter_sum P h l]
theorem sumTo_bits {S n : Nat} (hn : n ≤ 6) (hS : S < 2 ^ n) (h : Nat → Int) : sumTo (fun q => if S.testBit q = true then h q else 0) n = ((bitsOf S).map h).sum := by
  unfold bitsOf
  rw [filter_sum, ← sumTo_list, show 6 = n + (6 - n) by omega]
  exact (sumTo_far _ (fun i hi => by rw [bit_big hS hi]; simp)).symm

def dnV (cs : List Nat) (p : Nat) : Int := dnF cs 64 p
theorem dnV_step {cs : List Nat} (hs : spaceB cs = true) (hp : plainB cs = true) (hc : Codes cs) {p : Nat} (hpn : p < cs.length) : dnV cs p = 1 - ((bitsOf (diff (cell cs p) (2 ^ p))).map (dnV cs)).sum := by
  have h1 := dn_stable hs hp 64 p hpn (cell_64 hc p)
  unfold dnV
  rw [← h1]
  show 1 - sumTo (fun q => if ltP cs q p = true then dnF cs 64 q else 0) cs.length = _
  congr 1
  rw [← sumTo_bits hc.2.1 (diff_lt (hc.2.2 p))]
  refine sumTo_same _ fun q _ => ?_
  have : ltP cs q p = (diff (cell cs p) (2 ^ p)).testBit q := by
    rw [Bool.eq_iff_iff, without_bit]
    unfold ltP
    rw [Bool.and_eq_true, decide_eq_true_eq]
    exact And.comm
  rw [this]
theorem wrap_sub (a b : Int) : wrap64 (wrap64 a - wrap64 b) = wrap64 (a - b) := by unfold wrap64; omega
theorem wrap_add (a b : Int) : wrap64 (wrap64 a + wrap64 b) = wrap64 (a + b) := by unfold wrap64; omega

/-! ### the walk -/
def intKey (n : Int) : Value := .int .i64 n
theorem findNow_int (q : IntKind) (a : Int) : ∀ (es : List MapEntry) (ks : List Int) (i : Nat), es.map (·.key) = ks.map (Value.int q) → Instr.findNow (.int q) (.int q a) es i = some (findSpec a ks es i)
  | [], [], _, _ => rfl
  | e :: es, k :: ks, i, h => by
    simp only [List.map_cons, List.cons.injEq] at h
    obtain ⟨h1, h2⟩ := h
    have ih := findNow_int q a es ks (i + 1) h2
    by_cases hk : a = k
    · subst hk; simp [Instr.findNow, Instr.sameNow, h1, findSpec]
    · have hk2 : (a == k) = false := by simpa using hk
      simp [Instr.findNow, Instr.sameNow, h1, findSpec, hk, hk2, ih]
  | [], k :: ks, _, h => by simp at h
  | e :: es, [], _, h => by simp at h
theorem key_int : KeyOK 3 intKey where
  check := fun a em w => by kernel_rfl
  find := fun a es ks w h => by
    unfold Instr.findKey
    rw [Sem.run_bind, run_underlying Tryd.underlying3]
    simp only [Result.andThen_ok]
    rw [show Instr.findNow (.int .i64) (intKey a) es 0 = some (findSpec a ks es 0) from findNow_int .i64 a es ks 0 h]
    rfl

/-- all but the map's block is as it was -/
structure KeepM (bm : Nat) (W W' : World) : Prop where
  os : W'.os = W.os
  tape : W'.tape = W.tape
  output : W'.output = W.output
  size : W.heap.size ≤ W'.heap.size
  block : ∀ k, k < W.heap.size → k ≠ bm → W'.heap[k]? = W.heap[k]?
theorem KeepM.refl (bm : Nat) (W : World) : KeepM bm W W := ⟨rfl, rfl, rfl, Nat.le_refl _, fun _ _ _ => rfl⟩
theorem KeepM.trans {bm : Nat} {A B C : World} (h : KeepM bm A B) (k : KeepM bm B C) : KeepM bm A C := ⟨k.os.trans h.os, k.tape.trans h.tape, k.output.trans h.output, Nat.le_trans h.size k.size, fun i hi hne => (k.block i (Nat.lt_of_lt_of_le hi h.size) hne).trans (h.block i hi hne)⟩
theorem KeepM.of_below {bm : Nat} {A B : World} (h : Below A.heap.size A B) : KeepM bm A B := ⟨h.os, h.tape, h.output, h.size, fun k hk _ => h.block k hk⟩
theorem KeepM.of_grown {bm : Nat} {A B : World} (h : A.grownBy B (some bm)) : KeepM bm A B := ⟨h.os, h.tape, h.output, h.size, fun k hk hne => h.block k hk (fun e => hne (Option.some.inj e))⟩
theorem KeepM.below {bm B : Nat} {W W' : World} (h : KeepM bm W W') (hB : B ≤ bm) (hW : B ≤ W.heap.size) : Below B W W' := ⟨h.os, h.tape, h.output, h.size, fun k hk => h.block k (by omega) (by omega)⟩

structure CntW (cs : List Nat) (bm Bk Bx Bf : Nat) (W : World) (kvs : List (Int × Value)) : Prop where
  k : W.heap[Bk]? = some (.cells #[.map (some bm)] 72)
  m : MapIs intKey W bm kvs
  nd : (kvs.map (·.1)).Nodup
  vals : ∀ x ∈ kvs, ∃ q : Nat, q < cs.length ∧ x = ((q : Int), .int .i64 (wrap64 (dnV cs q)))
  x : SpF W Bx cs.length (cell cs)
  f : W.heap[Bf]? = some (.cells #[.func (.func 46) #[] #[.pointer (some ⟨Bk, 0, none⟩), .pointer (some ⟨Bx, 0, none⟩), .pointer (some ⟨Bf, 0, none⟩)]] 73)
  tab : Tab W
theorem CntW.to {cs : List Nat} {bm Bk Bx Bf : Nat} {W W' : World} {kvs : List (Int × Value)} (h : CntW cs bm Bk Bx Bf W kvs) (hc : ∀ (k : Nat) (c : Array Value) (t : TypeId) (fr : Nat × Nat), W.heap[k]? = some (.cells c t fr) → W'.heap[k]? = some (.cells c t fr)) (hm : W'.heap[bm]? = W.heap[bm]?) (hg : W'.heap[1]? = W.heap[1]?) : CntW cs bm Bk Bx Bf W' kvs :=
  ⟨hc _ _ _ _ h.k, h.m.of_block hm, h.nd, h.vals, hc _ _ _ _ h.x, hc _ _ _ _ h.f, h.tab.block hg⟩
theorem CntW.below {cs : List Nat} {bm Bk Bx Bf : Nat} {W W' : World} {kvs : List (Int × Value)} (h : CntW cs bm Bk Bx Bf W kvs) (hb : Below W.heap.size W W') : CntW cs bm Bk Bx Bf W' kvs := h.to (fun k c t fr hk => (hb.block k (heap_lt hk)).trans hk) (hb.block _ h.m.lt) (hb.block _ h.tab.lt)
theorem CntW.ne {cs : List Nat} {bm Bk Bx Bf : Nat} {W : World} {kvs : List (Int × Value)} (h : CntW cs bm Bk Bx Bf W kvs) {k : Nat} {c : Array Value} {t : TypeId} {fr : Nat × Nat} (hk : W.heap[k]? = some (.cells c t fr)) : k ≠ bm := fun e => by
  obtain ⟨es, clock, h1, _⟩ := h.m
  rw [e, h1] at hk; cases hk
theorem CntW.setCell {cs : List Nat} {bm Bk Bx Bf : Nat} {W : World} {kvs : List (Int × Value)} (h : CntW cs bm Bk Bx Bf W kvs) {b : Nat} (h1 : b ≠ bm) (h2 : b ≠ Bk) (h3 : b ≠ Bx) (h4 : b ≠ Bf) (h5 : b ≠ 1) (v : Value) : CntW cs bm Bk Bx Bf (W.setCell ⟨b, 0, none⟩ v) kvs :=
  ⟨set_other h.k (Ne.symm h2), h.m.of_block (heap_setCell_other _ _ _ _ (Ne.symm h1)), h.nd, h.vals, h.x.other (Ne.symm h3), set_other h.f (Ne.symm h4), h.tab.block (heap_setCell_other _ _ _ _ (Ne.symm h5))⟩
/-- one entry more -/
theorem CntW.add {cs : List Nat} {bm Bk Bx Bf : Nat} {W W' : World} {kvs : List (Int × Value)} (h : CntW cs bm Bk Bx Bf W kvs) (hg : W.grownBy W' (some bm)) {p : Nat} (hp : p < cs.length) (hno : (p : Int) ∉ kvs.map (·.1)) (hm : MapIs intKey W' bm (kvs ++ [((p : Int), .int .i64 (wrap64 (dnV cs p)))])) (hng : 1 ≠ bm) :
    CntW cs bm Bk Bx Bf W' (kvs ++ [((p : Int), .int .i64 (wrap64 (dnV cs p)))]) := by
  have old : ∀ {k : Nat} {c : Array Value} {t : TypeId} {fr : Nat × Nat}, W.heap[k]? = some (.cells c t fr) → W'.heap[k]? = some (.cells c t fr) := fun {k c t fr} hk => (hg.block k (heap_lt hk) (fun e => h.ne hk (Option.some.inj e))).trans hk
  refine ⟨old h.k, hm, ?_, fun x hx => ?_, old h.x, old h.f, h.tab.block (hg.block _ h.tab.lt (fun e => hng (Option.some.inj e)))⟩
  · rw [List.map_append, List.nodup_append]
    exact ⟨h.nd, by simp, fun a ha b hb => by simp at hb; subst hb; rintro rfl; exact hno ha⟩
  · rcases List.mem_append.1 hx with hx | hx
    · exact h.vals x hx
    · exact ⟨p, hp, List.mem_singleton.1 hx⟩

/-- what keys have come belong to points of smaller cells -/
def NewKeys (cs : List Nat) (kvs kvs' : List (Int × Value)) (b : Nat) : Prop := ∀ a ∈ kvs'.map (·.1), a ∈ kvs.map (·.1) ∨ ∃ q : Nat, a = (q : Int) ∧ cell cs q < b
theorem NewKeys.refl (cs : List Nat) (kvs : List (Int × Value)) (b : Nat) : NewKeys cs kvs kvs b := fun a h => .inl h
theorem NewKeys.trans {cs : List Nat} {k1 k2 k3 : List (Int × Value)} {b c : Nat} (h : NewKeys cs k1 k2 b) (k : NewKeys cs k2 k3 c) (hcb : c ≤ b) : NewKeys cs k1 k3 b := fun a ha => by
  rcases k a ha with h1 | ⟨q, h1, h2⟩
  · exact h a h1
  · exact .inr ⟨q, h1, by omega⟩
set_option maxRecDepth 100000 in
set_option maxHeartbeats 3200000 in
theorem count_any (cs : List Nat) (hs : spaceB cs = true) (hp : plainB cs = true) (hc : Codes cs) (bm Bk Bx Bf : Nat) (hng : 1 ≠ bm) : ∀ (k p : Nat) (W : World) (kvs : List (Int × Value)), cell cs p < k → p < cs.length → CntW cs bm Bk Bx Bf W kvs →
    Calls Tryd.prog 46 #[.int .i64 p, .pointer (some ⟨Bk, 0, none⟩), .pointer (some ⟨Bx, 0, none⟩), .pointer (some ⟨Bf, 0, none⟩)] W fun e W' => e = .returned (.int .i64 (wrap64 (dnV cs p))) ∧ (∃ kvs', CntW cs bm Bk Bx Bf W' kvs' ∧ NewKeys cs kvs kvs' (cell cs p + 1)) ∧ KeepM bm W W' := by
  intro k
  induction k with
  | zero => intro p W kvs h; omega
  | succ k ih =>
    intro p W kvs hk hpn hcw
    have hn6 := hc.2.1
    have c0 := cell_of hcw.k (j := 0) rfl
    by_cases hin : (p : Int) ∈ kvs.map (·.1)
    · have hv : ((p : Int), Value.int .i64 (wrap64 (dnV cs p))) ∈ kvs := by
        obtain ⟨x, hx, he⟩ := List.mem_map.1 hin
        obtain ⟨q, hq, rfl⟩ := hcw.vals x hx
        have he' : (q : Int) = (p : Int) := he
        have : q = p := by omega
        subst this; exact hx
      have HV := Lib.hid hv
      have HIN := Lib.hid hin
      have HC := Lib.hid hcw
      clear hv hin hcw hs hp ih
      refine (callsIn_wide (n := 20)).1 ?_
      refine callsIn_of_wp_marks Tryd.func46 rfl trivial ?_ rfl
      simp only [Tryd.ntmps46, List.size_toArray, List.length_cons, List.length_nil, Nat.reduceAdd, Nat.reduceSub, Array.replicate_succ, Array.replicate_zero, List.push_toArray, List.append_toArray, List.nil_append, List.cons_append]
      gi_wp2_with (gi_at_lookup; refine map_lookup_yes_in rfl _ _ _ rfl key_int Tryd.underlying72 rfl HC.out.m (p : Int) _ rfl HC.out.nd HV.out ?_)
      refine leave_marks (B := W.heap.size) [] W.heap.size _ trivial fun w' hs => ?_
      refine ⟨_, results_tmp rfl _ _ _, rfl, ⟨kvs, HC.out.below hs.below, NewKeys.refl _ _ _⟩, KeepM.of_below hs.below⟩
    · have HIN := Lib.hid hin
      have hstep := dnV_step hs hp hc hpn
      have hpn6 : p < 6 := by omega
      have h64 := cell_64 hc p
      have hd64 : diff (cell cs p) (2 ^ p) < 64 := diff_lt (k := 6) h64
      have hpts : ∀ x, (diff (cell cs p) (2 ^ p)).testBit x = true → x < cs.length ∧ cell cs x < k := fun x hx => by
        obtain ⟨h1, h2⟩ := (without_bit _ _ _).1 hx
        have hxn := set_lt (hc.2.2 p) h1
        have hl := lt_less hs hp hxn hpn (by unfold ltP; rw [Bool.and_eq_true, decide_eq_true_eq]; exact ⟨h2, h1⟩)
        exact ⟨hxn, by omega⟩
      have hptl : ∀ x, (diff (cell cs p) (2 ^ p)).testBit x = true → cell cs x + 1 ≤ cell cs p := fun x hx => by
        obtain ⟨h1, h2⟩ := (without_bit _ _ _).1 hx
        exact lt_less hs hp (set_lt (hc.2.2 p) h1) hpn (by unfold ltP; rw [Bool.and_eq_true, decide_eq_true_eq]; exact ⟨h2, h1⟩)
      have HPTL := Lib.hid hptl
      have HSTEP := Lib.hid hstep
      have HPTS := Lib.hid hpts
      have HC := Lib.hid hcw
      have hbm : bm < W.heap.size := hcw.m.lt
      have hsh := shl_num p hpn6
      have hpw := pow_lt64 hpn6
      have hz : (zeroValue 3).run Tryd.prog W = .ok (.int .i64 0) W := by kernel_rfl
      have HZ := Lib.hid hz
      have IH := Lib.hid ih
      have hdf : bits .andNot .u64 (cell cs p : Int) ((2 : Int) ^ p) = ((diff (cell cs p) (2 ^ p) : Nat) : Int) := by
        have := u64_andNot (cell cs p) (2 ^ p) (by omega) (by omega)
        rwa [pow_int] at this
      clear hin hcw hs hp ih hstep hpts hptl hc hz
      refine (callsIn_wide (n := 20)).1 ?_
      refine callsIn_of_wp_marks Tryd.func46 rfl trivial ?_ rfl
      simp only [Tryd.ntmps46, List.size_toArray, List.length_cons, List.length_nil, Nat.reduceAdd, Nat.reduceSub, Array.replicate_succ, Array.replicate_zero, List.push_toArray, List.append_toArray, List.nil_append, List.cons_append]
      gi_wp2_with (gi_at_lookup; refine map_lookup_no_in rfl _ _ _ rfl key_int Tryd.underlying72 HZ.out rfl HC.out.m (p : Int) rfl HIN.out ?_)
      have hal : Below W.heap.size W (W.alloc (.cells #[.int .i64 1] 3)) := (Below.refl _ _).alloc (Nat.le_refl _) _
      have s8 := heap_alloc_new W (.cells #[.int .i64 1] 3)
      have hc1 := HC.out.below hal
      have hsz1 : (W.alloc (.cells #[.int .i64 1] 3)).heap.size = W.heap.size + 1 := by simp
      generalize hW1 : World.alloc W _ = W1 at *
      clear hW1
      have q1 := hc1.x.cell (p := p) hpn6
      have p0 : (0 : Int) ≤ (p : Int) := by omega
      have p6 : (p : Int) < 6 := by omega
      have HAL := Lib.hid hal
      have HC1 := Lib.hid hc1
      have HS8 := Lib.hid s8
      clear hal hc1 s8 c0
      refine region_then 7 rfl rfl rfl (by kernel_rfl) (by kernel_rfl) (by kernel_rfl) (by kernel_rfl) (by kernel_rfl) (by kernel_rfl) ?_
      dsimp only [List.dropLast]
      repeat (gi_big_quiet_step (fail))
      refine wpQuietIn_nil ?_
      intro _ hw'
      obtain ⟨nq, hw''⟩ := hw'
      subst hw''
      have hdr := below_drewN W1 nq
      have hc2 := HC1.out.below hdr
      have s8 := (heap_drewN W1 nq _).trans HS8.out
      have hb2 := below_to HAL.out HAL.out.size hdr
      have hsz2 := size_drewN W1 nq
      rw [hsz1] at hsz2
      generalize hW2 : W1.drewN nq = W2 at *
      clear hW2 hdr q1 HAL HC1 HS8 hsz1
      go_simp
      refine ⟨trivial, (callsIn_wide.2 (points_any (diff (cell cs p) (2 ^ p)) _)).mono ?_⟩
      rintro e w2 ⟨rfl, rfl⟩
      have hal : Below W2.heap.size W2 (W2.alloc (.cells #[.int .u64 (diff (cell cs p) (2 ^ p) : Nat)] 38)) := (Below.refl _ _).alloc (Nat.le_refl _) _
      have hBs := heap_alloc_new W2 (.cells #[.int .u64 (diff (cell cs p) (2 ^ p) : Nat)] 38)
      have hc3 := hc2.below hal
      have t8 := (hal.block _ (heap_lt s8)).trans s8
      have hb3 := below_to hb2 hb2.size hal
      have hsz3 : (W2.alloc (.cells #[.int .u64 (diff (cell cs p) (2 ^ p) : Nat)] 38)).heap.size = W.heap.size + 2 := by simp [hsz2]
      rw [hsz2] at hBs ⊢
      generalize hW3 : World.alloc W2 _ = W3 at *
      clear hW3 hal hsz2 hc2 s8 hb2
      gi_wp2_with fail
      have lk := heap_lt HC.out.k
      have lx := HC.out.x.lt
      have lf := heap_lt HC.out.f
      have lt := HC.out.tab.lt
      refine range_pts (gf := 48) (Bs := W.heap.size + 1) (s := diff (cell cs p) (2 ^ p)) rfl (enters_of Tryd.func48 (by kernel_rfl) rfl)
        (points_given (diff (cell cs p) (2 ^ p)) (W.heap.size + 1) hd64 19 (by omega) W3 (by omega)) hBs rfl
        (fun pre V => (∃ kvs', CntW cs bm Bk Bx Bf V kvs' ∧ NewKeys cs kvs kvs' (cell cs p)) ∧ V.heap[W.heap.size]? = some (.cells #[.int .i64 (wrap64 (1 - (pre.map (dnV cs)).sum))] 3) ∧ KeepM bm W V ∧ W.heap.size + 2 ≤ V.heap.size)
        (fun c pre W => False) ?a1 ?hI (fun c s W W' row h _ _ => h) ?hIB (fun pre W h => h.1.elim fun _ h => h.1.tab) ⟨⟨_, hc3, NewKeys.refl _ _ _⟩, by rw [show wrap64 (1 - (([] : List Nat).map (dnV cs)).sum) = 1 by simp [wrap64]]; exact t8, KeepM.of_below hb3, by omega⟩ ?assign ?body ?done ?stop
      case assign =>
        intro l x W K hK
        gi_wp2
        exact hK
      case hI =>
        rintro s V V' row ⟨⟨kvs', h1, hnk⟩, h2, h3, h4⟩ hg hr
        refine ⟨⟨kvs', h1.to (fun k c t fr hk2 => own_cells hg hr hk2) (hg.block _ h1.m.lt (fun e => by have := (hr _ e.symm).1; omega)) (hg.block _ h1.tab.lt (fun e => by have := (hr _ e.symm).1; omega)), hnk⟩, own_block hg hr (by omega) h2, ⟨hg.os.trans h3.os, hg.tape.trans h3.tape, hg.output.trans h3.output, Nat.le_trans h3.size hg.size, fun k hk2 hne => ?_⟩, Nat.le_trans h4 hg.size⟩
        exact (hg.block k (Nat.lt_of_lt_of_le hk2 h3.size) (fun e => by have := (hr _ e.symm).1; omega)).trans (h3.block k hk2 hne)
      case hIB =>
        rintro s V v ⟨⟨kvs', h1, hnk⟩, h2, h3, h4⟩
        refine ⟨⟨kvs', h1.setCell (by omega) (by omega) (by omega) (by omega) (by omega) v, hnk⟩, set_other h2 (by omega), ⟨h3.os, h3.tape, h3.output, by simpa using h3.size, fun k hk2 hne => ?_⟩, by simpa using h4⟩
        exact (heap_setCell_other _ _ _ _ (by show k ≠ W.heap.size + 1; omega)).trans (h3.block k hk2 hne)
      case body =>
        rintro l pre x V hl ⟨⟨kvs', h1, hnk⟩, h2, h3, h4⟩ hpx
        obtain ⟨hxb, hx6⟩ := pre_bit hd64 hpx
        obtain ⟨hxn, hxk⟩ := HPTS.out x hxb
        have HXP : Hid (cell cs x + 1 ≤ cell cs p) := Lib.hid (HPTL.out x hxb)
        have hsum : wrap64 (wrap64 (1 - (pre.map (dnV cs)).sum) - wrap64 (dnV cs x)) = wrap64 (1 - ((pre ++ [x]).map (dnV cs)).sum) := by
          rw [wrap_sub, List.map_append, List.sum_append]
          congr 1
          simp only [List.map_cons, List.map_nil, List.sum_cons, List.sum_nil]
          omega
        have HSUM := Lib.hid hsum
        clear hsum
        gi_wp2_with fail
        refine region_thenC (C := fun V' => (∃ kv, CntW cs bm Bk Bx Bf V' kv ∧ NewKeys cs kvs kv (cell cs p)) ∧ KeepM bm V V') 5 rfl rfl rfl (by kernel_rfl) (by kernel_rfl) (by kernel_rfl) (by kernel_rfl) (by kernel_rfl) (by kernel_rfl) ⟨⟨_, h1.below (Below.refl _ _).drew, hnk⟩, KeepM.of_below (Below.refl _ _).drew⟩ ?_
        dsimp only [List.dropLast]
        have w8 : ∀ V', KeepM bm V V' → V'.heap[W.heap.size]? = some (.cells #[.int .i64 (wrap64 (1 - (pre.map (dnV cs)).sum))] 3) := fun V' hk => (hk.block _ (by omega) (by omega)).trans h2
        refine quiet_value (.int .i64 (wrap64 (1 - (pre.map (dnV cs)).sum))) rfl (fun w => rfl) (fun V' hC => ?_) ?_
        · have c := cell_of (w8 V' hC.2) (j := 0) rfl
          clear w8 hC
          go_simp
        dsimp only [Act.put, List.setIfInBounds_toArray, List.set_cons_zero, List.set_cons_succ]
        refine quiet_value (.func (.func 46) #[] #[.pointer (some ⟨Bk, 0, none⟩), .pointer (some ⟨Bx, 0, none⟩), .pointer (some ⟨Bf, 0, none⟩)]) rfl (fun w => rfl) (fun V' hC => ?_) ?_
        · obtain ⟨kv, hq, hqk⟩ := hC.1
          have c := cell_of hq.f (j := 0) rfl
          clear w8 hC hq
          go_simp
        dsimp only [Act.put, List.setIfInBounds_toArray, List.set_cons_zero, List.set_cons_succ]
        refine quiet_value (.int .i64 x) rfl (fun w => rfl) (fun V' hC => ?_) ?_
        · clear w8 hC
          go_simp
        dsimp only [Act.put, List.setIfInBounds_toArray, List.set_cons_zero, List.set_cons_succ]
        refine quiet_call (.int .i64 (wrap64 (dnV cs x))) 46 #[.int .i64 x, .pointer (some ⟨Bk, 0, none⟩), .pointer (some ⟨Bx, 0, none⟩), .pointer (some ⟨Bf, 0, none⟩)] rfl (fun _ => trivial) (fun h => by simp [Fence.wide, Fence.inRound] at h) (fun V' hC => ?_) (fun V' hC => ?_) ?_
        · clear w8 hC
          go_simp
        · obtain ⟨kv, hq, hqk⟩ := hC.1
          exact (callsIn_wide.2 (IH.out x V' kv hxk hxn hq)).mono fun e V'' h => ⟨h.1, ⟨h.2.1.choose, h.2.1.choose_spec.1, hqk.trans h.2.1.choose_spec.2 (HXP.out)⟩, hC.2.trans h.2.2⟩
        dsimp only [Act.put, List.setIfInBounds_toArray, List.set_cons_zero, List.set_cons_succ]
        refine quiet_value (.int .i64 (wrap64 (wrap64 (1 - (pre.map (dnV cs)).sum) - wrap64 (dnV cs x)))) rfl (fun w => rfl) (fun V' hC => ?_) ?_
        · clear w8 hC
          go_simp
          rw [IntKind.wrap_i64]; unfold wrap64; rfl
        dsimp only [Act.put, List.setIfInBounds_toArray, List.set_cons_zero, List.set_cons_succ]
        refine wpQuietIn_nil fun V' hC => ?_
        have c8 := w8 V' hC.2
        obtain ⟨kv, hq, hqk⟩ := hC.1
        have hkk := hC.2
        have c := cell_of c8 (j := 0) rfl
        have f8 := free_of c8 0
        rw [HSUM.out]
        have C8 := Lib.hid c8
        have HQ := Lib.hid hq
        clear w8 hC hq c8
        go_simp
        have e : wrap64 (1 - ((pre.map (dnV cs)).sum + dnV cs x)) = wrap64 (1 - ((pre ++ [x]).map (dnV cs)).sum) := by simp
        have hlt1 : W.heap.size + 1 < V.heap.size := by omega
        refine ⟨KeepsFrom.trans ⟨hkk.size, fun k o hB hk2 _ => (hkk.block k (heap_lt hk2) (by omega)).trans hk2⟩ (keeps_set _ _ _ _ _), SameAt.setCell (hkk.block _ hlt1 (by omega)) (by omega) _, ⟨kv, HQ.out.setCell (by omega) (by omega) (by omega) (by omega) (by omega) _, hqk⟩, ?_, ?_, ?_⟩
        · rw [← e]; exact set_same C8.out
        · have hk3 := h3.trans hkk
          refine ⟨hk3.os, hk3.tape, hk3.output, by simpa using hk3.size, fun k hk2 hne => ?_⟩
          exact (heap_setCell_other _ _ _ _ (by show k ≠ W.heap.size; omega)).trans (hk3.block k hk2 hne)
        · have := hkk.size
          simp; omega
      case done =>
        rintro D V hD ⟨⟨kvs', h1, hnk⟩, h2, h3, h4⟩ hK
        have hno : (p : Int) ∉ kvs'.map (·.1) := fun h => by
          rcases hnk _ h with h | ⟨q, h, hq⟩
          · exact HIN.out h
          · have : q = p := by omega
            subst this; omega
        rw [← HSTEP.out] at h2
        have c := cell_of h2 (j := 0) rfl
        have ck := cell_of h1.k (j := 0) rfl
        have HNO := Lib.hid hno
        have H1 := Lib.hid h1
        have H3 := Lib.hid h3
        clear h1 h2 h3 hno
        gi_wp2_with (first
          | (gi_at_mapUpdate; refine map_update_new_in rfl _ _ _ rfl key_int Tryd.underlying72 rfl H1.out.m (p : Int) (.int .i64 (wrap64 (dnV cs p))) rfl rfl HNO.out ?_; intro V2 hm2 hg2; have H2 := Lib.hid (H1.out.add hg2 hpn HNO.out hm2 hng); have ck2 := cell_of H2.out.k (j := 0) rfl)
          | (gi_at_lookup; refine map_lookup_yes_in rfl _ _ _ rfl key_int Tryd.underlying72 rfl H2.out.m (p : Int) (.int .i64 (wrap64 (dnV cs p))) rfl H2.out.nd (by simp) ?_))
        have HK2 : V2.heap[D]? = _ := (hg2.block _ (heap_lt hK) (fun e => by have h0 := Option.some.inj e; subst h0; have := HC.out.m.lt; omega)).trans hK
        refine leave_marks (B := W.heap.size) _ (D+1) V2 (Marks.add (U := W.heap.size) (ds := []) trivial (by omega) (by omega) HK2) fun w' hs => ?_
        have hk3 := H3.out.trans (KeepM.of_grown hg2)
        have hsm : KeepM bm W w' := ⟨hs.below.os.trans hk3.os, hs.below.tape.trans hk3.tape, hs.below.output.trans hk3.output, Nat.le_trans hk3.size hs.below.size, fun k hk2 hne => (hs.below.block k hk2).trans (hk3.block k hk2 hne)⟩
        refine ⟨_, results_tmp rfl _ _ _, rfl, ⟨_, H2.out.to hs.keep (hs.below.block _ HC.out.m.lt) (hs.below.block _ HC.out.tab.lt), fun a ha => ?_⟩, hsm⟩
        rw [List.map_append, List.mem_append] at ha
        rcases ha with ha | ha
        · rcases hnk a ha with h | ⟨q, h5, h6⟩
          · exact .inl h
          · exact .inr ⟨q, h5, by omega⟩
        · exact .inr ⟨p, by simpa using ha, by omega⟩
      case stop =>
        rintro D c pre W hD hpre h
        exact h.elim
end Go.Proofs.YtmagkcioplcidaeDoor

/- A space and the one with renamed points: plain numbers. -/
set_option linter.unusedVariables false
set_option linter.unusedSimpArgs false
namespace Go.Proofs.YtmagkcioplcidaeDoor

/-- two spaces and two maps, each the other's inverse, that keep what lies below what -/
structure Iso2 (cs ds : List Nat) (f g : Nat → Nat) : Prop where
  len : ds.length = cs.length
  to : ∀ p, p < cs.length → f p < cs.length ∧ g (f p) = p
  back : ∀ p, p < cs.length → g p < cs.length ∧ f (g p) = p
  rel : ∀ q p, q < cs.length → p < cs.length → (cell cs q).testBit p = (cell ds (f q)).testBit (f p)
theorem Iso2.symm {cs ds : List Nat} {f g : Nat → Nat} (h : Iso2 cs ds f g) : Iso2 ds cs g f :=
  ⟨h.len.symm, fun p hp => by rw [h.len] at hp ⊢; exact h.back p hp, fun p hp => by rw [h.len] at hp ⊢; exact h.to p hp, fun q p hq hp => by
    rw [h.len] at hq hp
    rw [h.rel _ _ (h.back q hq).1 (h.back p hp).1, (h.back q hq).2, (h.back p hp).2]⟩
theorem iso2_of {cs ds : List Nat} {f : Nat → Nat} (hl : ds.length = cs.length) (hf : ∀ i, i < cs.length → f i < cs.length) (hi : injP cs.length f) (hr : isoP cs.length cs ds f) : ∃ g, Iso2 cs ds f g := by
  refine ⟨fun y => ((List.range cs.length).find? fun i => f i == y).getD 0, hl, fun p hp => ⟨hf p hp, ?_⟩, fun y hy => ?_, hr⟩
  · have hs : ((List.range cs.length).find? fun i => f i == f p) = some p := by
      rw [List.find?_range_eq_some]
      refine ⟨by simp, List.mem_range.2 hp, fun j hj => ?_⟩
      have : ¬ f j = f p := fun e => by have := hi j p (by omega) hp e; omega
      simpa using this
    rw [hs]; rfl
  · obtain ⟨p, hp, rfl⟩ := pigeon _ f hf hi y hy
    have hs : ((List.range cs.length).find? fun i => f i == f p) = some p := by
      rw [List.find?_range_eq_some]
      refine ⟨by simp, List.mem_range.2 hp, fun j hj => ?_⟩
      have : ¬ f j = f p := fun e => by have := hi j p (by omega) hp e; omega
      simpa using this
    rw [hs]; exact ⟨hp, rfl⟩
theorem Iso2.space {cs ds : List Nat} {f g : Nat → Nat} (h : Iso2 cs ds f g) (hd : Codes ds) (hs : spaceB cs = true) : spaceB ds = true := by
  refine space_iff.2 fun p hp => ?_
  have hp' := hp
  rw [h.len] at hp
  obtain ⟨b1, b2⟩ := h.back p hp
  constructor
  · have := (space_iff.1 hs (g p) b1).1
    rwa [h.rel _ _ b1 b1, b2] at this
  · intro q hq hb
    rw [h.len] at hq
    obtain ⟨c1, c2⟩ := h.back q hq
    refine sub_of (hd.2.2 q) fun i hin hb2 => ?_
    rw [h.len] at hin
    obtain ⟨e1, e2⟩ := h.back i hin
    have k1 : (cell cs (g p)).testBit (g q) = true := by rw [h.rel _ _ b1 c1, b2, c2]; exact hb
    have k2 : (cell cs (g q)).testBit (g i) = true := by rw [h.rel _ _ c1 e1, c2, e2]; exact hb2
    have k3 := sub_iff.1 ((space_iff.1 hs (g p) b1).2 (g q) c1 k1) _ k2
    rwa [h.rel _ _ b1 e1, b2, e2] at k3
theorem cell_same {cs : List Nat} (hc : Codes cs) {p q : Nat} (h : ∀ i, i < cs.length → (cell cs p).testBit i = (cell cs q).testBit i) : cell cs p = cell cs q := by
  refine Nat.eq_of_testBit_eq fun i => ?_
  by_cases hi : i < cs.length
  · exact h i hi
  · rw [bit_big (hc.2.2 p) (by omega), bit_big (hc.2.2 q) (by omega)]
theorem Iso2.alike {cs ds : List Nat} {f g : Nat → Nat} (h : Iso2 cs ds f g) (hd : Codes ds) {p q : Nat} (hp : p < cs.length) (hq : q < cs.length) (he : cell cs p = cell cs q) : cell ds (f p) = cell ds (f q) := by
  refine cell_same hd fun i hi => ?_
  rw [h.len] at hi
  obtain ⟨e1, e2⟩ := h.back i hi
  rw [← e2, ← h.rel _ _ hp e1, ← h.rel _ _ hq e1, he]
theorem Iso2.alike' {cs ds : List Nat} {f g : Nat → Nat} (h : Iso2 cs ds f g) (hc : Codes cs) {p q : Nat} (hp : p < cs.length) (hq : q < cs.length) (he : cell ds (f p) = cell ds (f q)) : cell cs p = cell cs q := by
  have h1 := h.to p hp
  have h2 := h.to q hq
  have := h.symm.alike hc (by rw [h.len]; exact h1.1) (by rw [h.len]; exact h2.1) he
  rwa [h1.2, h2.2] at this
theorem Iso2.plain {cs ds : List Nat} {f g : Nat → Nat} (h : Iso2 cs ds f g) (hd : Codes ds) (hp : plainB ds = true) : plainB cs = true := by
  refine plain_iff.2 fun i k hi hk e => ?_
  have h1 := h.to i hi
  have h2 := h.to k (by omega)
  have := h.alike hd (by omega) hi e
  refine plain_ne hp (i := f k) (k := f i) (by rw [h.len]; exact h2.1) (by rw [h.len]; exact h1.1) (fun e2 => ?_) this
  rw [← h2.2, ← h1.2, e2] at hk; omega
theorem Iso2.plain_same {cs ds : List Nat} {f g : Nat → Nat} (h : Iso2 cs ds f g) (hc : Codes cs) (hd : Codes ds) : plainB ds = plainB cs := by
  rw [Bool.eq_iff_iff]; exact ⟨h.plain hd, h.symm.plain hc⟩

/-! ### cores -/
/-- the first point alike -/
def rep (cs : List Nat) (y : Nat) : Nat := ((List.range (y + 1)).find? fun k => cell cs k == cell cs y).getD 0
theorem rep_spec (cs : List Nat) (y : Nat) : rep cs y ≤ y ∧ cell cs (rep cs y) = cell cs y ∧ ∀ j, j < rep cs y → cell cs j ≠ cell cs y := by
  unfold rep
  rcases h : (List.range (y + 1)).find? (fun k => cell cs k == cell cs y) with _ | r
  · exfalso
    rw [List.find?_eq_none] at h
    have := h y (List.mem_range.2 (by omega))
    simp at this
  · rw [List.find?_range_eq_some] at h
    obtain ⟨h1, h2, h3⟩ := h
    refine ⟨by have := List.mem_range.1 h2; show r ≤ y; omega, by simpa using h1, fun j hj => by simpa using h3 j hj⟩
theorem rep_first {cs : List Nat} {p i : Nat} (hp : (firstsN cs).testBit p = true) (he : cell cs i = cell cs p) : rep cs i = p := by
  obtain ⟨h1, h2⟩ := firsts_bit.1 hp
  obtain ⟨k1, k2, k3⟩ := rep_spec cs i
  have a1 : ¬ rep cs i < p := fun hlt => h2 _ hlt (k2.trans he)
  have a2 : ¬ p < rep cs i := fun hlt => k3 p hlt he.symm
  omega
theorem rep_in {cs : List Nat} {y : Nat} (hy : y < cs.length) : (firstsN cs).testBit (rep cs y) = true := by
  obtain ⟨k1, k2, k3⟩ := rep_spec cs y
  exact firsts_bit.2 ⟨by omega, fun k hk => by rw [k2]; exact k3 k hk⟩
theorem Iso2.to_rep {cs ds : List Nat} {f g : Nat → Nat} (h : Iso2 cs ds f g) (hc : Codes cs) {p : Nat} (hp : (firstsN cs).testBit p = true) : (firstsN ds).testBit (rep ds (f p)) = true ∧ rep cs (g (rep ds (f p))) = p := by
  have hpn := (firsts_bit.1 hp).1
  have h1 := h.to p hpn
  have hr := rep_spec ds (f p)
  have hrn : rep ds (f p) < cs.length := by omega
  refine ⟨rep_in (by rw [h.len]; exact h1.1), rep_first hp ?_⟩
  have hb := h.back _ hrn
  refine h.alike' hc hb.1 hpn ?_
  rw [hb.2, hr.2.1]
theorem bit_alike {ds : List Nat} (hs : spaceB ds = true) {x y z : Nat} (hx : x < ds.length) (hy : y < ds.length) (hz : z < ds.length) (he : cell ds y = cell ds z) : (cell ds x).testBit y = (cell ds x).testBit z := by
  have k : ∀ {y z : Nat}, y < ds.length → z < ds.length → cell ds y = cell ds z → (cell ds x).testBit y = true → (cell ds x).testBit z = true := fun {y z} hy hz he hb => by
    have h1 := (space_iff.1 hs x hx).2 y hy hb
    have h2 := (space_iff.1 hs z hz).1
    rw [← he] at h2
    exact sub_iff.1 h1 _ h2
  rw [Bool.eq_iff_iff]; exact ⟨k hy hz he, k hz hy he.symm⟩
theorem Iso2.cores {cs ds : List Nat} {f g : Nat → Nat} (h : Iso2 cs ds f g) (hc : Codes cs) (hd : Codes ds) (hs : spaceB cs = true) : (bitsOf (coreN cs)).length = (bitsOf (coreN ds)).length := by
  have hsd := h.space hd hs
  refine cores_len hs hc hd ⟨fun p => rep ds (f p), fun y => rep cs (g y), fun p hp => h.to_rep hc hp, fun y hy => h.symm.to_rep hd hy, fun p q hp hq => ?_⟩
  have hpn := (firsts_bit.1 hp).1
  have hqn := (firsts_bit.1 hq).1
  have h1 := h.to p hpn
  have h2 := h.to q hqn
  have r1 := rep_spec ds (f p)
  have r2 := rep_spec ds (f q)
  show (cell cs q).testBit p = (cell ds (rep ds (f q))).testBit (rep ds (f p))
  rw [r2.2.1, h.rel q p hqn hpn]
  exact bit_alike hsd (by rw [h.len]; exact h2.1) (by rw [h.len]; exact h1.1) (by rw [h.len]; omega) r1.2.1.symm

/-! ### chains -/
theorem sumTo_one {n i : Nat} (hi : i < n) (c : Int) : sumTo (fun q => if q = i then c else 0) n = c := by
  induction n with
  | zero => omega
  | succ n ih =>
    show sumTo _ n + (if n = i then c else 0) = c
    by_cases e : n = i
    · subst e
      rw [if_pos rfl, sumTo_same n (k := fun _ => 0) (fun q hq => by simp [show ¬ q = n by omega]), sumTo_zero, Int.zero_add]
    · rw [if_neg e, ih (by omega), Int.add_zero]
theorem sumTo_rename {n : Nat} {f g : Nat → Nat} (to : ∀ p, p < n → f p < n ∧ g (f p) = p) (back : ∀ p, p < n → g p < n ∧ f (g p) = p) (h : Nat → Int) : sumTo h n = sumTo (fun q => h (f q)) n := by
  have e1 : sumTo h n = sumTo (fun y => sumTo (fun q => if f q = y then h y else 0) n) n := sumTo_same n fun y hy => by
    rw [sumTo_same n (k := fun q => if q = g y then h y else 0) (fun q hq => ?_), sumTo_one (back y hy).1]
    by_cases e : f q = y
    · rw [if_pos e, if_pos (by rw [← e, (to q hq).2])]
    · rw [if_neg e, if_neg (fun e2 => e (by rw [e2, (back y hy).2]))]
  rw [e1, sumTo_swap]
  refine sumTo_same n fun q hq => ?_
  rw [sumTo_same n (k := fun y => if y = f q then h (f q) else 0) (fun y hy => ?_), sumTo_one (to q hq).1]
  by_cases e : f q = y
  · subst e; simp
  · rw [if_neg e, if_neg (fun e2 => e e2.symm)]
theorem Iso2.dn {cs ds : List Nat} {f g : Nat → Nat} (h : Iso2 cs ds f g) (hc : Codes cs) (hd : Codes ds) (hs : spaceB cs = true) (hp : plainB cs = true) : ∀ k p, p < cs.length → cell cs p < k → dnV ds (f p) = dnV cs p
  | 0, p, _, hk => by omega
  | k + 1, p, hpn, hk => by
    have hsd := h.space hd hs
    have hpd : plainB ds = true := by rw [h.plain_same hc hd]; exact hp
    have h1 := h.to p hpn
    rw [dnV_step hsd hpd hd (by rw [h.len]; exact h1.1), dnV_step hs hp hc hpn,
      ← sumTo_bits (n := cs.length) hc.2.1 (by have := diff_lt (b := 2 ^ f p) (hd.2.2 (f p)); rwa [h.len] at this) (dnV ds), ← sumTo_bits (n := cs.length) hc.2.1 (diff_lt (hc.2.2 p)) (dnV cs), sumTo_rename h.to h.back]
    congr 1
    refine sumTo_same _ fun q hq => ?_
    have h2 := h.to q hq
    have hb : (diff (cell ds (f p)) (2 ^ f p)).testBit (f q) = (diff (cell cs p) (2 ^ p)).testBit q := by
      rw [diff_bit, diff_bit, ← h.rel p q hpn hq, Nat.testBit_two_pow, Nat.testBit_two_pow]
      congr 2
      rw [decide_eq_decide]
      exact ⟨fun e => by rw [← h1.2, ← h2.2, e], fun e => by rw [e]⟩
    rw [hb]
    by_cases e : (diff (cell cs p) (2 ^ p)).testBit q = true
    · rw [if_pos e, if_pos e]
      rw [diff_bit, Nat.testBit_two_pow, Bool.and_eq_true, Bool.not_eq_true', decide_eq_false_iff_not] at e
      have hl := lt_less hs hp hq hpn (by unfold ltP; rw [Bool.and_eq_true, decide_eq_true_eq]; exact ⟨fun e2 => e.2 e2.symm, e.1⟩)
      exact h.dn hc hd hs hp k q hq (by omega)
    · rw [if_neg e, if_neg e]
theorem Iso2.chains {cs ds : List Nat} {f g : Nat → Nat} (h : Iso2 cs ds f g) (hc : Codes cs) (hd : Codes ds) (hs : spaceB cs = true) (hp : plainB cs = true) : sumTo (dnV ds) ds.length = sumTo (dnV cs) cs.length := by
  rw [h.len, sumTo_rename h.to h.back]
  exact sumTo_same _ fun q hq => h.dn hc hd hs hp (cell cs q + 1) q hq (by omega)

/-! ### the first map is not after another one -/
def notAfter (g f : List Nat) : Prop := g = f ∨ ∃ k, k < f.length ∧ (∀ j, j < k → cell g j = cell f j) ∧ cell g k < cell f k
theorem allL_mem {m : Nat} : ∀ d l r, r.length = d → (∀ y ∈ r, y < m) → l ++ r ∈ allL m d l
  | 0, l, r, hr, _ => by
    obtain rfl : r = [] := List.length_eq_zero_iff.1 hr
    simp [allL]
  | d + 1, l, [], hr, _ => by simp at hr
  | d + 1, l, q :: r, hr, hm => by
    show _ ∈ (List.range m).flatMap _
    rw [List.mem_flatMap]
    refine ⟨q, List.mem_range.2 (hm q (by simp)), ?_⟩
    have := allL_mem d (l ++ [q]) r (by simpa using hr) (fun y hy => hm y (by simp [hy]))
    simpa using this
theorem findSome_first {α β : Type} {F : α → Option β} : ∀ {l : List α} {b : β}, l.findSome? F = some b → ∃ l1 a l2, l = l1 ++ a :: l2 ∧ F a = some b ∧ ∀ x ∈ l1, F x = none
  | [], b, h => by simp at h
  | x :: l, b, h => by
    rw [List.findSome?_cons] at h
    cases hx : F x with
    | some c => rw [hx] at h; cases h; exact ⟨[], x, l, rfl, hx, by simp⟩
    | none =>
      rw [hx] at h
      obtain ⟨l1, a, l2, rfl, h1, h2⟩ := findSome_first h
      exact ⟨x :: l1, a, l2, rfl, h1, fun y hy => by
        rcases List.mem_cons.1 hy with rfl | hy
        · exact hx
        · exact h2 y hy⟩
theorem range_split {m a : Nat} {l1 l2 : List Nat} (h : List.range m = l1 ++ a :: l2) : ∀ y, y < a → y ∈ l1 := by
  intro y hy
  have hs := List.pairwise_lt_range (n := m)
  have ha : a ∈ List.range m := by rw [h]; simp
  have hm : y ∈ List.range m := List.mem_range.2 (by have := List.mem_range.1 ha; omega)
  rw [h] at hm hs
  rcases List.mem_append.1 hm with h1 | h1
  · exact h1
  · exfalso
    have h2 := (List.pairwise_append.1 hs).2.1
    rcases List.mem_cons.1 h1 with rfl | h1
    · omega
    · have := (List.pairwise_cons.1 h2).1 y h1; omega
theorem first_least {m : Nat} {P : List Nat → Bool} : ∀ d l g r, (allL m d l).find? P = some g → r.length = d → (∀ y ∈ r, y < m) → P (l ++ r) = true → notAfter g (l ++ r)
  | 0, l, g, r, hg, hr, _, _ => by
    obtain rfl : r = [] := List.length_eq_zero_iff.1 hr
    have : g ∈ allL m 0 l := List.mem_of_find?_eq_some hg
    simp [allL] at this
    exact .inl (by simp [this])
  | d + 1, l, g, [], _, hr, _, _ => by simp at hr
  | d + 1, l, g, q :: r, hg, hr, hm, hP => by
    change ((List.range m).flatMap _).find? P = some g at hg
    rw [List.find?_flatMap] at hg
    obtain ⟨l1, a, l2, h1, h2, h3⟩ := findSome_first hg
    have hq : q < m := hm q (by simp)
    have hmem : l ++ q :: r ∈ allL m d (l ++ [q]) := by
      have := allL_mem d (l ++ [q]) r (by simpa using hr) (fun y hy => hm y (by simp [hy]))
      simpa using this
    by_cases e : q = a
    · subst e
      have := first_least d (l ++ [q]) g r h2 (by simpa using hr) (fun y hy => hm y (by simp [hy])) (by simpa using hP)
      simpa using this
    · by_cases hlt : q < a
      · exfalso
        have := h3 q (range_split h1 q hlt)
        rw [List.find?_eq_none] at this
        exact this _ hmem hP
      · refine .inr ⟨l.length, by simp, fun j hj => ?_, ?_⟩
        · obtain ⟨s, rfl, _, _⟩ := allL_ext d _ _ (List.mem_of_find?_eq_some h2)
          rw [List.append_assoc, cell_app_left hj, cell_app_left hj]
        · obtain ⟨s, rfl, _, _⟩ := allL_ext d _ _ (List.mem_of_find?_eq_some h2)
          rw [List.append_assoc, List.singleton_append, cell_app_mid, cell_app_mid]; omega
theorem first_some {cs ds f : List Nat} (hl : ds.length = cs.length) (hfl : f.length = cs.length) (hf : ∀ y ∈ f, y < cs.length) (hs : sameB cs ds f = true) : ∃ g, firstSame cs ds = some g ∧ notAfter g f ∧ sameB cs ds g = true ∧ g.length = cs.length ∧ ∀ y ∈ g, y < cs.length := by
  have hmem : f ∈ allL ds.length cs.length [] := by
    have := allL_mem (m := ds.length) cs.length [] f hfl (fun y hy => by rw [hl]; exact hf y hy)
    simpa using this
  rcases h : firstSame cs ds with _ | g
  · exfalso
    unfold firstSame at h
    rw [List.find?_eq_none] at h
    exact h f hmem hs
  · unfold firstSame at h
    obtain ⟨r, hr, h1, h2⟩ := allL_ext _ _ _ (List.mem_of_find?_eq_some h)
    rw [List.nil_append] at hr
    subst hr
    refine ⟨g, rfl, ?_, by simpa using List.find?_some h, h1, fun y hy => by rw [← hl]; exact h2 y hy⟩
    have := first_least cs.length [] g f h hfl (fun y hy => by rw [hl]; exact hf y hy) (by simpa using hs)
    simpa using this
end Go.Proofs.YtmagkcioplcidaeDoor
