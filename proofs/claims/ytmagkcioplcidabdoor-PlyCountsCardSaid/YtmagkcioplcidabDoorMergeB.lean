import Derived.Test.YtmagkcioplcidabDoorMergeA
import Derived.Laws.EntriesVeiled
import Derived.Laws.StructEq
import Derived.Maps.OwnIn
/- The lists of codes that are spaces, counted in two ways: plain numbers. -/
set_option linter.unusedVariables false
set_option linter.unusedSimpArgs false
namespace Go.Proofs.YtmagkcioplcidabDoor

/-- how many lists with a property go on from one, if every cell has its point -/
def leaves (P : List Nat → Bool) (N : Nat) : Nat → List Nat → Nat
  | 0, l => if P l = true then 1 else 0
  | d + 1, l => sN (fun q => if q.testBit l.length = true then leaves P N d (l ++ [q]) else 0) N
def leavesTo (P : List Nat → Bool) (N d : Nat) (l : List Nat) (m : Nat) : Nat := sN (fun q => if q.testBit l.length = true then leaves P N d (l ++ [q]) else 0) m
theorem leaves_succ (P : List Nat → Bool) (N d : Nat) (l : List Nat) : leaves P N (d + 1) l = leavesTo P N d l N := rfl
theorem leavesTo_succ (P : List Nat → Bool) (N d : Nat) (l : List Nat) (m : Nat) : leavesTo P N d l (m + 1) = leavesTo P N d l m + (if m.testBit l.length = true then leaves P N d (l ++ [m]) else 0) := rfl
theorem leaves_count {P : List Nat → Bool} {N n : Nat} (hN : 0 < N) (hP : ∀ l, l.length = n → P l = true → ∀ p, p < n → (cell l p).testBit p = true) : ∀ d l, l.length + d = n → leaves P N d l = cntTo (fun x => P (l ++ digits N d x)) (N ^ d)
  | 0, l, _ => by
    show (if P l = true then 1 else 0) = 0 + (if P (l ++ digits N 0 0) = true then 1 else 0)
    simp [digits]
  | d + 1, l, hn => by
    rw [leaves_succ, Nat.pow_succ, Nat.mul_comm, cnt_mul]
    refine sN_same _ fun q hq => ?_
    have h : ∀ y, P (l ++ digits N (d + 1) (q + N * y)) = P (l ++ [q] ++ digits N d y) := fun y => by
      show P (l ++ ((q + N * y) % N :: digits N d ((q + N * y) / N))) = _
      rw [Nat.add_mul_mod_self_left, Nat.mod_eq_of_lt hq, Nat.add_mul_div_left _ _ hN, Nat.div_eq_of_lt hq, Nat.zero_add]
      simp
    rw [cnt_same _ (fun y _ => h y)]
    by_cases hb : q.testBit l.length = true
    · rw [if_pos hb, leaves_count hN hP d _ (by simp; omega)]
    · rw [if_neg hb, cnt_same (g := fun _ => false) _ (fun y _ => ?_), cnt_false]
      rcases hp : P (l ++ [q] ++ digits N d y) with _ | _
      · rfl
      · exfalso
        have := hP _ (by simp [digits_len]; omega) hp l.length (by omega)
        apply hb
        have e : l ++ [q] ++ digits N d y = l ++ q :: digits N d y := by simp
        rw [e] at this
        unfold cell at this
        simpa using this
def spacePlain (l : List Nat) : Bool := spaceB l && plainB l
theorem leaves_space {N n : Nat} (hN : 0 < N) : leaves spaceB N n [] = cntTo (fun x => spaceB (digits N n x)) (N ^ n) := by
  have := leaves_count (P := spaceB) (n := n) hN (fun l hl h p hp => (space_iff.1 h p (by omega)).1) n [] (by simp)
  simpa using this
theorem leaves_plain {N n : Nat} (hN : 0 < N) : leaves spacePlain N n [] = cntTo (fun x => spacePlain (digits N n x)) (N ^ n) := by
  have := leaves_count (P := spacePlain) (n := n) hN (fun l hl h p hp => by
    unfold spacePlain at h
    rw [Bool.and_eq_true] at h
    exact (space_iff.1 h.1 p (by omega)).1) n [] (by simp)
  simpa using this
end Go.Proofs.YtmagkcioplcidabDoor

/- ply: the smooth maps, one after the other: smooth's iterator. -/
set_option linter.unusedVariables false
set_option linter.unusedSimpArgs false
namespace Go.Proofs.YtmagkcioplcidabDoor
open Go.RowKit Go.Shelf
attribute [local go_sem] Oper.semAt_some

/-! ### images -/
abbrev imF (f : Nat → Nat) : Value := .agg #[.int .i64 (f 0), .int .i64 (f 1), .int .i64 (f 2), .int .i64 (f 3), .int .i64 (f 4), .int .i64 (f 5)]
def ImF (w : World) (b : Nat) (f : Nat → Nat) : Prop := w.heap[b]? = some (.cells #[.int .i64 (f 0), .int .i64 (f 1), .int .i64 (f 2), .int .i64 (f 3), .int .i64 (f 4), .int .i64 (f 5)] 72)
theorem ImF.cell {w : World} {b : Nat} {c : Nat → Nat} (h : ImF w b c) {p : Nat} (hp : p < 6) : w.cell? ⟨b, p, none⟩ = some (.int .i64 (c p)) := by
  have e : p = 0 ∨ p = 1 ∨ p = 2 ∨ p = 3 ∨ p = 4 ∨ p = 5 := by omega
  rcases e with rfl | rfl | rfl | rfl | rfl | rfl <;> exact cell_of h rfl
theorem ImF.drewN {w : World} {b : Nat} {c : Nat → Nat} (h : ImF w b c) (k : Nat) : ImF (w.drewN k) b c := (heap_drewN _ _ _).trans h
theorem ImF.below {w w' : World} {b : Nat} {c : Nat → Nat} (h : ImF w b c) (hb : Below w.heap.size w w') : ImF w' b c := (hb.block b (heap_lt h)).trans h
theorem ImF.lt {w : World} {b : Nat} {c : Nat → Nat} (h : ImF w b c) : b < w.heap.size := heap_lt h
theorem ImF.free {w : World} {b : Nat} {c : Nat → Nat} (h : ImF w b c) (j : Nat) : w.frozen? ⟨b, j, none⟩ = false := free_of h j
theorem ImF.set {w : World} {b p v : Nat} {c c' : Nat → Nat} (h : ImF w b c) (hp : p < 6) (hc : ∀ j, j < 6 → c' j = if j = p then v else c j) : ImF (w.setCell ⟨b, p, none⟩ (.int .i64 v)) b c' := by
  have h0 := hc 0 (by omega)
  have h1 := hc 1 (by omega)
  have h2 := hc 2 (by omega)
  have h3 := hc 3 (by omega)
  have h4 := hc 4 (by omega)
  have h5 := hc 5 (by omega)
  have e : p = 0 ∨ p = 1 ∨ p = 2 ∨ p = 3 ∨ p = 4 ∨ p = 5 := by omega
  have hh := heap_setCell_same _ _ p _ _ (Value.int .i64 v) h
  unfold ImF
  rw [hh]
  rcases e with rfl | rfl | rfl | rfl | rfl | rfl <;> simp_all
theorem ImF.cells {w : World} {b : Nat} {c : Nat → Nat} (h : ImF w b c) : w.cell? ⟨b, 0, none⟩ = some (.int .i64 (c 0)) ∧ w.cell? ⟨b, 1, none⟩ = some (.int .i64 (c 1)) ∧ w.cell? ⟨b, 2, none⟩ = some (.int .i64 (c 2)) ∧
    w.cell? ⟨b, 3, none⟩ = some (.int .i64 (c 3)) ∧ w.cell? ⟨b, 4, none⟩ = some (.int .i64 (c 4)) ∧ w.cell? ⟨b, 5, none⟩ = some (.int .i64 (c 5)) :=
  ⟨cell_of h rfl, cell_of h rfl, cell_of h rfl, cell_of h rfl, cell_of h rfl, cell_of h rfl⟩
theorem cell_snoc (l : List Nat) (q j : Nat) : cell (l ++ [q]) j = if j = l.length then q else cell l j := by
  unfold cell
  by_cases h : j < l.length
  · rw [if_neg (by omega)]; simp [List.getElem?_append_left h]
  · by_cases e : j = l.length
    · subst e; simp
    · rw [if_neg e]; simp only [List.getD_eq_getElem?_getD]; rw [List.getElem?_eq_none (by simp; omega), List.getElem?_eq_none (by omega)]

/-! ### what is visited -/
def fit1 (cs ds : List Nat) (p : Nat) (g : Nat → Nat) (q o : Nat) : Bool := (!(cell cs p).testBit o || (cell ds q).testBit (g o)) && (!(cell cs o).testBit p || (cell ds (g o)).testBit q)
def fitTo (cs ds : List Nat) (p : Nat) (g : Nat → Nat) (q : Nat) : Nat → Bool
  | 0 => true
  | k + 1 => fitTo cs ds p g q k && fit1 cs ds p g q k
/-- may the point that comes go to q -/
def fitB (cs ds l : List Nat) (q : Nat) : Bool := fitTo cs ds l.length (cell (l ++ [q])) q l.length
def smL (cs ds : List Nat) : Nat → List Nat → List (List Nat)
  | 0, l => [l]
  | d + 1, l => (List.range ds.length).flatMap fun q => if fitB cs ds l q = true then smL cs ds d (l ++ [q]) else []
def smTo (cs ds : List Nat) (d : Nat) (l : List Nat) (m : Nat) : List (List Nat) := (List.range m).flatMap fun q => if fitB cs ds l q = true then smL cs ds d (l ++ [q]) else []
theorem smTo_succ (cs ds : List Nat) (d : Nat) (l : List Nat) (m : Nat) : smTo cs ds d l (m + 1) = smTo cs ds d l m ++ if fitB cs ds l m = true then smL cs ds d (l ++ [m]) else [] := by simp [smTo, List.range_succ]
theorem smTo_le (cs ds : List Nat) (d : Nat) (l : List Nat) : ∀ k m, smTo cs ds d l m <+: smTo cs ds d l (m + k)
  | 0, m => List.prefix_rfl
  | k + 1, m => (smTo_le cs ds d l k m).trans (by rw [← Nat.add_assoc, smTo_succ]; exact List.prefix_append _ _)

/-! ### the walk -/
def ExtI (X : Nat → Prop) (J Jx : List (List Nat) → World → Prop) (pre L : List (List Nat)) (W : World) (c : Bool) (W' : World) : Prop :=
  KeepX X W W' ∧ (c = true → J (pre ++ L) W') ∧ (c = false → ∃ ys, ys <+: L ∧ Jx (pre ++ ys) W')
theorem ExtI.mono {X : Nat → Prop} {J Jx : List (List Nat) → World → Prop} {pre L : List (List Nat)} {W0 W W' : World} {c : Bool} (h : ExtI X J Jx pre L W c W') (hk : KeepX X W0 W) : ExtI X J Jx pre L W0 c W' := ⟨hk.trans h.1, h.2⟩
structure CapsI (X : Nat → Prop) (cs ds : List Nat) (l Bx By Bz Be : Nat) (W : World) : Prop where
  x0 : SpF W Bx cs.length (cell cs)
  y0 : W.heap[By]? = some (.cells #[.func (.yield l) #[] #[]] 69)
  z0 : SpF W Bz ds.length (cell ds)
  e0 : W.heap[Be]? = some (.cells #[.func (.func 41) #[] #[.pointer (some ⟨Bx, 0, none⟩), .pointer (some ⟨By, 0, none⟩), .pointer (some ⟨Bz, 0, none⟩), .pointer (some ⟨Be, 0, none⟩)]] 70)
  nx : ¬ X Bx ∧ ¬ X By ∧ ¬ X Bz ∧ ¬ X Be
theorem CapsI.keep {X : Nat → Prop} {cs ds : List Nat} {l Bx By Bz Be : Nat} {W W' : World} (h : CapsI X cs ds l Bx By Bz Be W) (hk : KeepX X W W') : CapsI X cs ds l Bx By Bz Be W' :=
  ⟨hk.block h.x0 h.nx.1, hk.block h.y0 h.nx.2.1, hk.block h.z0 h.nx.2.2.1, hk.block h.e0 h.nx.2.2.2, h.nx⟩
theorem CapsI.set {X : Nat → Prop} {cs ds : List Nat} {l Bx By Bz Be : Nat} {W : World} (h : CapsI X cs ds l Bx By Bz Be W) {b : Nat} (h1 : Bx < b) (h2 : By < b) (h3 : Bz < b) (h4 : Be < b) (j : Nat) (v : Value) : CapsI X cs ds l Bx By Bz Be (W.setCell ⟨b, j, none⟩ v) :=
  ⟨h.x0.other (by omega), (heap_setCell_other _ _ _ _ (by show By ≠ b; omega)).trans h.y0, h.z0.other (by omega), (heap_setCell_other _ _ _ _ (by show Be ≠ b; omega)).trans h.e0, h.nx⟩
theorem has_known {s p : Nat} {b : Bool} (h : s.testBit p = b) (hs : s < 64) (hp : p < 64) (w : World) : Calls Tryd.prog 12 #[.int .u64 s, .int .i64 p] w fun e w' => e = .returned (.bool b) ∧ w = w' := by
  have := has_any s p w hs hp
  rwa [h] at this
def YieldI (X : Nat → Prop) (n l : Nat) (J Jx : List (List Nat) → World → Prop) : Prop :=
  ∀ pre x W1, J pre W1 → x.length = n → YieldAt Fence.wide 0 Tryd.prog l #[imF (cell x)] W1 fun e W' => (e = .returned (.bool true) ∧ J (pre ++ [x]) W' ∧ KeepX X W1 W') ∨ (e = .returned (.bool false) ∧ Jx (pre ++ [x]) W' ∧ KeepX X W1 W')

set_option maxRecDepth 100000 in
set_option maxHeartbeats 32000000 in
theorem extend_in (X : Nat → Prop) (cs ds : List Nat) (hc : Codes cs) (hd : Codes ds) (l Bx By Bz Be B0 : Nat) (hXB : ∀ b, X b → b < B0) (J Jx : List (List Nat) → World → Prop) (hJ : AbidesFrom B0 J) (hJB : ∀ pre W b j v, B0 ≤ b → J pre W → J pre (W.setCell ⟨b, j, none⟩ v)) (hY : YieldI X cs.length l J Jx) :
    ∀ (d : Nat) (lst : List Nat) (W : World) (pre : List (List Nat)), lst.length + d = cs.length → (∀ x ∈ lst, x < ds.length) → B0 ≤ W.heap.size → CapsI X cs ds l Bx By Bz Be W → J pre W →
      CallsIn Fence.wide 9 Tryd.prog 41 #[imF (cell lst), .int .i64 lst.length, .pointer (some ⟨Bx, 0, none⟩), .pointer (some ⟨By, 0, none⟩), .pointer (some ⟨Bz, 0, none⟩), .pointer (some ⟨Be, 0, none⟩)] W fun e W' => ∃ c, e = .returned (.bool c) ∧ ExtI X J Jx pre (smL cs ds d lst) W c W' := by
  intro d
  induction d with
  | zero =>
    intro lst W pre hdl hsm hB0 hcap hj
    have hn6 := hc.2.1
    have hal := (Below.refl W.heap.size W).alloc (Nat.le_refl _) (.cells #[.int .i64 (cell lst 0), .int .i64 (cell lst 1), .int .i64 (cell lst 2), .int .i64 (cell lst 3), .int .i64 (cell lst 4), .int .i64 (cell lst 5)] 72)
    have him : ImF (W.alloc (.cells #[.int .i64 (cell lst 0), .int .i64 (cell lst 1), .int .i64 (cell lst 2), .int .i64 (cell lst 3), .int .i64 (cell lst 4), .int .i64 (cell lst 5)] 72)) W.heap.size (cell lst) := heap_alloc_new _ _
    have hk1 := KeepX.of_below (X := X) hal
    have hj1 := hJ _ _ _ none hj (below_grown0 hal) (fun _ e => by cases e)
    have hc1 := hcap.keep hk1
    refine (callsIn_of_wp Tryd.func41 rfl trivial ?_ rfl)
    simp only [Tryd.ntmps41, List.size_toArray, List.length_cons, List.length_nil, Nat.reduceAdd, Nat.reduceSub, Array.replicate_succ, Array.replicate_zero, List.push_toArray, List.append_toArray, List.nil_append, List.cons_append]
    have heq : ((lst.length : Int) == (cs.length : Int)) = true := by simp; omega
    obtain ⟨d0, d1, d2, d3, d4, d5⟩ := him.cells
    have dn := hc1.x0.n
    have dy := cell_of hc1.y0 (j := 0) rfl
    obtain ⟨fn, tmps, ca, bd, hy, hR⟩ := hY pre lst _ hj1 (by omega)
    have hR2 := RoundIn.any 8 hR
    have hR3 := hR2.mono (R' := fun e W' => ∃ c, e = .returned (.bool c) ∧ ExtI X J Jx pre [lst] W c W') (by
      rintro e W' (⟨rfl, h3, h4⟩ | ⟨rfl, h3, h4⟩)
      · exact ⟨true, rfl, hk1.trans h4, fun _ => h3, fun h => (by cases h)⟩
      · exact ⟨false, rfl, hk1.trans h4, fun h => (by cases h), fun _ => ⟨[lst], List.prefix_rfl, h3⟩⟩)
    clear hR hR2 hY him hc1 hcap hj hal
    gi_wp2_with fail
    refine hR3.mono ?_
    rintro e W' ⟨c, rfl, hext⟩
    gi_wp2
    go_ret
    exact ⟨c, rfl, hext⟩
  | succ d ih =>
    intro lst W pre hdl hsm hB0 hcap hj
    have hn6 := hc.2.1
    have hm6 := hd.2.1
    have hal := (Below.refl W.heap.size W).alloc (Nat.le_refl _) (.cells #[.int .i64 (cell lst 0), .int .i64 (cell lst 1), .int .i64 (cell lst 2), .int .i64 (cell lst 3), .int .i64 (cell lst 4), .int .i64 (cell lst 5)] 72)
    have him : ImF (W.alloc (.cells #[.int .i64 (cell lst 0), .int .i64 (cell lst 1), .int .i64 (cell lst 2), .int .i64 (cell lst 3), .int .i64 (cell lst 4), .int .i64 (cell lst 5)] 72)) W.heap.size (cell lst) := heap_alloc_new _ _
    have hk1 := KeepX.of_below (X := X) hal
    have hj1 := hJ _ _ _ none hj (below_grown0 hal) (fun _ e => by cases e)
    have hc1 := hcap.keep hk1
    have hne : ((lst.length : Int) == (cs.length : Int)) = false := by simp; omega
    have lx : Bx < W.heap.size := hcap.x0.lt
    have ly : By < W.heap.size := heap_lt hcap.y0
    have lz : Bz < W.heap.size := hcap.z0.lt
    have le : Be < W.heap.size := heap_lt hcap.e0
    have hnXi : ¬ X W.heap.size := fun h => by have := hXB _ h; omega
    refine (callsIn_of_wp Tryd.func41 rfl trivial ?_ rfl)
    simp only [Tryd.ntmps41, List.size_toArray, List.length_cons, List.length_nil, Nat.reduceAdd, Nat.reduceSub, Array.replicate_succ, Array.replicate_zero, List.push_toArray, List.append_toArray, List.nil_append, List.cons_append]
    have dn := hc1.x0.n
    have dm := hc1.z0.n
    have HC := Lib.hid hc
    have HD := Lib.hid hd
    have HSM := Lib.hid hsm
    have HC1 := Lib.hid hc1
    have HJ1 := Lib.hid hj1
    have HIM := Lib.hid him
    have HK1 := Lib.hid hk1
    clear hc hd hsm hc1 hj1 him hk1 hj hcap hal
    gi_wp2_with fail
    generalize hW1 : World.alloc W _ = W1 at *
    have hs1 : W1.heap.size = W.heap.size + 1 := by rw [← hW1]; simp
    clear hW1 dn dm hne
    generalize hBi : W.heap.size = Bi at *
    gi_loopw [21] (fun i wr => ∃ (k : Nat) (f : Nat → Nat), k ≤ ds.length ∧ i = .int .i64 k ∧ ImF wr Bi f ∧ (∀ j, j ≠ lst.length → f j = cell lst j) ∧ J (pre ++ smTo cs ds d lst k) wr ∧ KeepX X W wr ∧ CapsI X cs ds l Bx By Bz Be wr) (fun i _ => ds.length - (intOf i).toNat)
    case atStart => exact ⟨0, _, by omega, rfl, HIM.out, fun _ _ => rfl, by simpa [smTo] using HJ1.out, HK1.out, HC1.out⟩
    case round =>
      obtain ⟨k, f, hk, rfl, him, hf, hjr, hkr, hcr⟩ := hrel
      by_cases hlt : k < ds.length
      · have hp6 : lst.length < 6 := by omega
        have p0 : (0 : Int) ≤ (lst.length : Int) := by omega
        have p6 : (lst.length : Int) < 6 := by omega
        have k1 : (k : Int) < (ds.length : Int) := by omega
        have cp := him.cell hp6
        have fp := him.free lst.length
        have HIM2 : Hid (ImF (wr.setCell ⟨Bi, lst.length, none⟩ (.int .i64 k)) Bi (cell (lst ++ [k]))) := Lib.hid (him.set hp6 (fun j hj => by
          rw [cell_snoc]
          split
          · rfl
          · exact (hf j ‹_›).symm))
        have HJ2 : Hid (J (pre ++ smTo cs ds d lst k) (wr.setCell ⟨Bi, lst.length, none⟩ (.int .i64 k))) := Lib.hid (hJB _ _ _ _ _ hB0 hjr)
        have HK2 : Hid (KeepX X W (wr.setCell ⟨Bi, lst.length, none⟩ (.int .i64 k))) := Lib.hid ⟨by simpa using hkr.1, fun b hb hx => (heap_setCell_other _ _ _ _ (by show b ≠ Bi; omega)).trans (hkr.2 b hb hx)⟩
        have HC2 : Hid (CapsI X cs ds l Bx By Bz Be (wr.setCell ⟨Bi, lst.length, none⟩ (.int .i64 k))) := Lib.hid (hcr.set (by omega) (by omega) (by omega) (by omega) _ _)
        clear him hjr hkr hcr
        gi_wp2_with fail
        generalize hW2 : wr.setCell _ _ = W2 at *
        clear hW2
        gi_loopw [10, 28] (fun fi i w2 => ∃ (o : Nat), o ≤ lst.length ∧ i = .int .i64 o ∧ fi = .bool (fitTo cs ds lst.length (cell (lst ++ [k])) k o) ∧ Below W2.heap.size W2 w2) (fun _ i _ => lst.length - (intOf i).toNat)
        case atStart => exact ⟨0, by omega, rfl, rfl, Below.refl _ _⟩
        case round =>
          obtain ⟨o, ho, rfl, rfl, hbo⟩ := hrel
          have HB := Lib.hid hbo
          by_cases hol : o < lst.length
          · have ho6 : o < 6 := by omega
            have hk6 : k < 6 := by omega
            have hg6 : cell (lst ++ [k]) o < 6 := by
              rw [cell_snoc, if_neg (by omega)]
              have := HSM.out (cell lst o) (by simp [cell, List.getD_eq_getElem?_getD, hol])
              omega
            have o0 : (0 : Int) ≤ (o : Int) := by omega
            have o6 : (o : Int) < 6 := by omega
            have o1 : (o : Int) < (lst.length : Int) := by omega
            have g0 : (0 : Int) ≤ (cell (lst ++ [k]) o : Int) := by omega
            have g6 : (cell (lst ++ [k]) o : Int) < 6 := by omega
            have j0 : (0 : Int) ≤ (k : Int) := by omega
            have j6 : (k : Int) < 6 := by omega
            have q1 := (HC2.out.keep (KeepX.of_below hbo)).x0.cell hp6
            have q2 := (HC2.out.keep (KeepX.of_below hbo)).x0.cell ho6
            have q3 := (HC2.out.keep (KeepX.of_below hbo)).z0.cell hk6
            have q4 := (HC2.out.keep (KeepX.of_below hbo)).z0.cell hg6
            have q5 := (HIM2.out.below hbo).cell ho6
            have HA1 : ∀ b, (cell cs lst.length).testBit o = b → Hid (∀ w, Calls Tryd.prog 12 #[.int .u64 (cell cs lst.length), .int .i64 o] w fun e w' => e = .returned (.bool b) ∧ w = w') := fun b h => Lib.hid (has_known h (cell_64 HC.out _) (by omega))
            have HB1 : ∀ b, (cell ds k).testBit (cell (lst ++ [k]) o) = b → Hid (∀ w, Calls Tryd.prog 12 #[.int .u64 (cell ds k), .int .i64 (cell (lst ++ [k]) o)] w fun e w' => e = .returned (.bool b) ∧ w = w') := fun b h => Lib.hid (has_known h (cell_64 HD.out _) (by omega))
            have HA2 : ∀ b, (cell cs o).testBit lst.length = b → Hid (∀ w, Calls Tryd.prog 12 #[.int .u64 (cell cs o), .int .i64 lst.length] w fun e w' => e = .returned (.bool b) ∧ w = w') := fun b h => Lib.hid (has_known h (cell_64 HC.out _) (by omega))
            have HB2 : ∀ b, (cell ds (cell (lst ++ [k]) o)).testBit k = b → Hid (∀ w, Calls Tryd.prog 12 #[.int .u64 (cell ds (cell (lst ++ [k]) o)), .int .i64 k] w fun e w' => e = .returned (.bool b) ∧ w = w') := fun b h => Lib.hid (has_known h (cell_64 HD.out _) (by omega))
            have hf1 : fit1 cs ds lst.length (cell (lst ++ [k])) k o = ((!(cell cs lst.length).testBit o || (cell ds k).testBit (cell (lst ++ [k]) o)) && (!(cell cs o).testBit lst.length || (cell ds (cell (lst ++ [k]) o)).testBit k)) := rfl
            generalize hF : fitTo cs ds lst.length (cell (lst ++ [k])) k o = F at *
            generalize hG : fit1 cs ds lst.length (cell (lst ++ [k])) k o = G at *
            generalize hA1 : (cell cs lst.length).testBit o = a1 at *
            generalize hB1 : (cell ds k).testBit (cell (lst ++ [k]) o) = b1 at *
            generalize hA2 : (cell cs o).testBit lst.length = a2 at *
            generalize hB2 : (cell ds (cell (lst ++ [k]) o)).testBit k = b2 at *
            have HF := Lib.hid hF
            have HG := Lib.hid hG
            replace HA1 := HA1 _ rfl
            replace HB1 := HB1 _ rfl
            replace HA2 := HA2 _ rfl
            replace HB2 := HB2 _ rfl
            clear hbo hF hG hA1 hB1 hA2 hB2 hf
            clear HIM2 HJ2 HK2
            have HC3 := Lib.hid HC2
            clear HC2 HC1
            generalize cell (lst ++ [k]) o = g at *
            generalize cell cs lst.length = s1 at *
            generalize cell cs o = s2 at *
            generalize cell ds k = s3 at *
            generalize cell ds g = s4 at *
            cases F
            · subst hf1
              gi_wp2_with fail
              refine wpIn_wide.2 ?_
              refine wp_region_quiet_lit (by kernel_rfl) (by kernel_rfl) ?_
              repeat (go_big_quiet_step (fail))
              refine wpQuiet_nil ?_
              intro _ hw'
              obtain ⟨nq, hw''⟩ := hw'
              subst hw''
              gi_wp2
              go_roundw
              case rel => exact ⟨o + 1, by omega, by go_num, by simp only [fitTo, HF.out, Bool.false_and], below_to HB.out HB.out.size (below_drewN _ _)⟩
              case measure => simp [intOf]; omega
            · cases a1
              · cases a2
                · obtain rfl : G = true := hf1
                  gi_wp2_with fail
                  refine wpIn_wide.2 ?_
                  refine wp_region_quiet_lit (by kernel_rfl) (by kernel_rfl) ?_
                  repeat (go_big_quiet_step (fail))
                  quiet_step ((go_at_call 12; exact (HA1.out _).mono (fun e w' h => ⟨h.1, _, h.2.symm⟩)))
                  repeat (go_big_quiet_step (fail))
                  quiet_step ((go_at_call 12; exact (HA2.out _).mono (fun e w' h => ⟨h.1, _, h.2.symm⟩)))
                  repeat (go_big_quiet_step (fail))
                  refine wpQuiet_nil ?_
                  intro _ hw'
                  obtain ⟨nq, hw''⟩ := hw'
                  subst hw''
                  gi_wp2
                  go_roundw
                  case rel => exact ⟨o + 1, by omega, by go_num, by simp only [fitTo, HF.out, HG.out, Bool.true_and], below_to HB.out HB.out.size (below_drewN _ _)⟩
                  case measure => simp [intOf]; omega
                · obtain rfl : G = b2 := by rw [hf1]; simp
                  clear hf1
                  gi_wp2_with fail
                  refine wpIn_wide.2 ?_
                  refine wp_region_quiet_lit (by kernel_rfl) (by kernel_rfl) ?_
                  repeat (go_big_quiet_step (fail))
                  quiet_step ((go_at_call 12; exact (HA1.out _).mono (fun e w' h => ⟨h.1, _, h.2.symm⟩)))
                  repeat (go_big_quiet_step (fail))
                  quiet_step ((go_at_call 12; exact (HA2.out _).mono (fun e w' h => ⟨h.1, _, h.2.symm⟩)))
                  repeat (go_big_quiet_step (fail))
                  quiet_step ((go_at_call 12; exact (HB2.out _).mono (fun e w' h => ⟨h.1, _, h.2.symm⟩)))
                  repeat (go_big_quiet_step (fail))
                  refine wpQuiet_nil ?_
                  intro _ hw'
                  obtain ⟨nq, hw''⟩ := hw'
                  subst hw''
                  gi_wp2
                  go_roundw
                  case rel => exact ⟨o + 1, by omega, by go_num, by simp only [fitTo, HF.out, HG.out, Bool.true_and], below_to HB.out HB.out.size (below_drewN _ _)⟩
                  case measure => simp [intOf]; omega
              · cases b1
                · obtain rfl : G = false := hf1
                  gi_wp2_with fail
                  refine wpIn_wide.2 ?_
                  refine wp_region_quiet_lit (by kernel_rfl) (by kernel_rfl) ?_
                  repeat (go_big_quiet_step (fail))
                  quiet_step ((go_at_call 12; exact (HA1.out _).mono (fun e w' h => ⟨h.1, _, h.2.symm⟩)))
                  repeat (go_big_quiet_step (fail))
                  quiet_step ((go_at_call 12; exact (HB1.out _).mono (fun e w' h => ⟨h.1, _, h.2.symm⟩)))
                  repeat (go_big_quiet_step (fail))
                  refine wpQuiet_nil ?_
                  intro _ hw'
                  obtain ⟨nq, hw''⟩ := hw'
                  subst hw''
                  gi_wp2
                  go_roundw
                  case rel => exact ⟨o + 1, by omega, by go_num, by simp only [fitTo, HF.out, HG.out, Bool.true_and], below_to HB.out HB.out.size (below_drewN _ _)⟩
                  case measure => simp [intOf]; omega
                · cases a2
                  · obtain rfl : G = true := hf1
                    gi_wp2_with fail
                    refine wpIn_wide.2 ?_
                    refine wp_region_quiet_lit (by kernel_rfl) (by kernel_rfl) ?_
                    repeat (go_big_quiet_step (fail))
                    quiet_step ((go_at_call 12; exact (HA1.out _).mono (fun e w' h => ⟨h.1, _, h.2.symm⟩)))
                    repeat (go_big_quiet_step (fail))
                    quiet_step ((go_at_call 12; exact (HB1.out _).mono (fun e w' h => ⟨h.1, _, h.2.symm⟩)))
                    repeat (go_big_quiet_step (fail))
                    quiet_step ((go_at_call 12; exact (HA2.out _).mono (fun e w' h => ⟨h.1, _, h.2.symm⟩)))
                    repeat (go_big_quiet_step (fail))
                    refine wpQuiet_nil ?_
                    intro _ hw'
                    obtain ⟨nq, hw''⟩ := hw'
                    subst hw''
                    gi_wp2
                    go_roundw
                    case rel => exact ⟨o + 1, by omega, by go_num, by simp only [fitTo, HF.out, HG.out, Bool.true_and], below_to HB.out HB.out.size (below_drewN _ _)⟩
                    case measure => simp [intOf]; omega
                  · obtain rfl : G = b2 := by rw [hf1]; simp
                    clear hf1
                    gi_wp2_with fail
                    refine wpIn_wide.2 ?_
                    refine wp_region_quiet_lit (by kernel_rfl) (by kernel_rfl) ?_
                    repeat (go_big_quiet_step (fail))
                    quiet_step ((go_at_call 12; exact (HA1.out _).mono (fun e w' h => ⟨h.1, _, h.2.symm⟩)))
                    repeat (go_big_quiet_step (fail))
                    quiet_step ((go_at_call 12; exact (HB1.out _).mono (fun e w' h => ⟨h.1, _, h.2.symm⟩)))
                    repeat (go_big_quiet_step (fail))
                    quiet_step ((go_at_call 12; exact (HA2.out _).mono (fun e w' h => ⟨h.1, _, h.2.symm⟩)))
                    repeat (go_big_quiet_step (fail))
                    quiet_step ((go_at_call 12; exact (HB2.out _).mono (fun e w' h => ⟨h.1, _, h.2.symm⟩)))
                    repeat (go_big_quiet_step (fail))
                    refine wpQuiet_nil ?_
                    intro _ hw'
                    obtain ⟨nq, hw''⟩ := hw'
                    subst hw''
                    gi_wp2
                    go_roundw
                    case rel => exact ⟨o + 1, by omega, by go_num, by simp only [fitTo, HF.out, HG.out, Bool.true_and], below_to HB.out HB.out.size (below_drewN _ _)⟩
                    case measure => simp [intOf]; omega
          · have hop : o = lst.length := by omega
            subst hop
            have hkk := KeepX.of_below (X := X) hbo
            have HIM4 := Lib.hid (HIM2.out.below hbo)
            have HJ4 := Lib.hid (hJ _ _ _ none HJ2.out (below_grown0 hbo) (fun _ e => by cases e))
            have HK4 := Lib.hid (HK2.out.trans hkk)
            have HC4 := Lib.hid (HC2.out.keep hkk)
            have hsz4 : B0 ≤ wr.heap.size := by
              have := HK4.out.1
              omega
            have hfb : fitTo cs ds lst.length (cell (lst ++ [k])) k lst.length = fitB cs ds lst k := rfl
            rw [hfb]
            clear hfb hbo hkk
            rcases hF : fitB cs ds lst k with _ | _
            · have HF := Lib.hid hF
              clear hF
              gi_wp2_with fail
              refine ⟨fun _ h => (by cases h), ?_⟩
              gi_wp2_with fail
              go_roundw
              case rel => exact ⟨k + 1, _, by omega, by go_num, HIM4.out, fun j hj => by rw [cell_snoc, if_neg hj], by rw [smTo_succ, HF.out]; simpa using HJ4.out, HK4.out, HC4.out⟩
              case measure => simp [intOf]; omega
            · have HF := Lib.hid hF
              have e0 := cell_of HC4.out.e0 (j := 0) rfl
              obtain ⟨d0, d1, d2, d3, d4, d5⟩ := HIM4.out.cells
              have hih := CallsIn.any 8 (ih (lst ++ [k]) wr (pre ++ smTo cs ds d lst k) (by simp; omega) (fun x hx => by
                rcases List.mem_append.1 hx with hx | hx
                · exact HSM.out x hx
                · rw [List.mem_singleton.1 hx]; exact hlt) hsz4 HC4.out HJ4.out)
              rw [show (((lst ++ [k]).length : Nat) : Int) = (lst.length : Int) + 1 by simp] at hih
              have HIH := Lib.hid hih
              clear hih hF ih
              gi_wp2_with fail
              refine ⟨trivial, HIH.out.mono ?_⟩
              rintro e W' ⟨c, rfl, hext⟩
              have HE := Lib.hid hext
              clear hext d0 d1 d2 d3 d4 d5 e0 cp fp
              cases c
              · gi_wp2_with fail
                go_ret
                obtain ⟨g1, _, g3⟩ := HE.out
                obtain ⟨zs, g4, g5⟩ := g3 rfl
                refine ⟨false, rfl, HK4.out.trans g1, fun h => (by cases h), fun _ => ⟨smTo cs ds d lst k ++ zs, ?_, by rw [← List.append_assoc]; exact g5⟩⟩
                refine List.IsPrefix.trans ?_ (smTo_le cs ds d lst (ds.length - (k + 1)) (k + 1) |>.trans (by rw [show k + 1 + (ds.length - (k + 1)) = ds.length by omega]; exact List.prefix_rfl))
                rw [smTo_succ, if_pos HF.out, List.prefix_append_right_inj]; exact g4
              · gi_wp2_with fail
                obtain ⟨g1, g2, _⟩ := HE.out
                have g4 := g2 rfl
                go_roundw
                case rel => exact ⟨k + 1, _, by omega, by go_num, g1.block HIM4.out hnXi, fun j hj => by rw [cell_snoc, if_neg hj], by rw [smTo_succ, if_pos HF.out, ← List.append_assoc]; exact g4, HK4.out.trans g1, HC4.out.keep g1⟩
                case measure => simp [intOf]; omega
      · have hkn : k = ds.length := by omega
        have HK := Lib.hid hkn
        clear hkn
        gi_wp2
        go_ret
        refine ⟨true, rfl, hkr, fun _ => ?_, fun h => (by cases h)⟩
        rw [HK.out] at hjr
        exact hjr
end Go.Proofs.YtmagkcioplcidabDoor

/- A range statement over an iterator that writes cells of blocks of its own. -/
set_option linter.unusedVariables false
set_option linter.unusedSimpArgs false
namespace Go.Proofs.YtmagkcioplcidabDoor
open Go.RowKit

section
variable {α : Type} {n : Nat} {P : Program}

/-- the contract of an iterator that writes cells of its own: at each call of yield, Px holds of what came before, of the element and of the world -/
def GivenB (n : Nat) (P : Program) (gf : Nat) (lb : Array Value) (encs : α → Array Value) (Kp : World → World → Prop) (S Sp : List α → Prop) (Px : List α → α → World → Prop) (w : World) : Prop :=
  ∀ (l : Nat) (J Jx : List α → World → Prop) (W : World), Below w.heap.size w W → w.heap.size + 2 ≤ W.heap.size → AbidesFrom W.heap.size J → AbidesFrom W.heap.size Jx → (∀ pre V b j v, W.heap.size ≤ b → J pre V → J pre (V.setCell ⟨b, j, none⟩ v)) →
    (∀ pre x W1, J pre W1 → Px pre x W1 → YieldAt Fence.wide (n - 1) P l (encs x) W1 fun e W' => (e = .returned (.bool true) ∧ J (pre ++ [x]) W' ∧ Kp W1 W') ∨ (e = .returned (.bool false) ∧ Jx (pre ++ [x]) W' ∧ Kp W1 W')) →
    J [] W → CallsIn Fence.wide n P gf (#[.func (.yield l) #[] #[]] ++ lb) W fun e W' => (∃ v, e = .returned v) ∧ ((∃ xs, S xs ∧ J xs W') ∨ (∃ pre, Sp pre ∧ Jx pre W'))

theorem range_bears {g : Operand} {ps : Array Tmp} {assign body : Code} {Q : Exit → Act → World → Prop} {a : Act} {w : World}
    {gf : Nat} {lb : Array Value} (hg : a.eval g = .func (.func gf) #[] lb) (eg : ∀ args w, (callFunc gf args).run P w = .ok (.enter gf args) w)
    {encs : α → Array Value} {Kp : World → World → Prop} {S Sp : List α → Prop} {Px : List α → α → World → Prop} (hseq : GivenB (n - 1) P gf lb encs Kp S Sp Px w)
    (hKt : ∀ {A B C : World}, Kp A B → Kp B C → Kp A C) (hKb : ∀ (W : World) (o' : Obj), Kp W (W.putObj (w.heap.size + 1) o')) (hps : ∀ x, (encs x).size = ps.size)
    (I : List α → World → Prop) (Ix : Code → List α → World → Prop) (hI : OwnFrom w.heap.size I) (hIx : ∀ c, OwnFrom w.heap.size (Ix c)) (hIB : ∀ pre V b j v, w.heap.size ≤ b → I pre V → I pre (V.setCell ⟨b, j, none⟩ v)) (h0 : I [] w)
    (Ax : List α → α → Act → World → Prop) (hAx : ∀ pre x a', OwnFrom w.heap.size (fun (_ : Unit) W => Ax pre x a' W))
    (hassign : ∀ (l : Nat) (pre : List α) (x : α) (W : World) (K : Act → World → Prop), I pre W → Px pre x W → (∀ a' W', KeepsFrom w.heap.size W W' → Kp W W' → I pre W' → Ax pre x a' W' → K a' W') →
      assign.wpIn (Fence.wide.inRound l) (n - 1 - 1) P (Exit.then K (fun _ _ _ => False)) { tmps := (ps.zip (encs x)).foldl (fun t (p, v) => t.setIfInBounds p v) a.tmps, defers := [] } W)
    (hbody : ∀ (l : Nat) (pre : List α) (x : α) (a' : Act) (W : World), w.heap.size ≤ l → (∃ r, W.heap[l]? = some (.loop r)) → I pre W → Ax pre x a' W → body.wpIn (Fence.wide.inRound l) (n - 1 - 1) P (roundPostK w.heap.size Kp I Ix (pre ++ [x]) W) a' W)
    (hdone : ∀ (D : Nat) (xs : List α) (W : World), w.heap.size ≤ D → S xs → I xs W → W.heap[D]? = some (.deferred (some [])) → Q .normal { a with defers := { target := .collected D, args := #[] } :: a.defers } W)
    (hstop : ∀ (D : Nat) (c : Code) (pre : List α) (W : World), w.heap.size ≤ D → Sp pre → Ix c pre W → W.heap[D]? = some (.deferred (some [])) → c.wpIn Fence.wide n P Q { a with defers := { target := .collected D, args := #[] } :: a.defers } W) :
    (Code.rangeFunc g ps assign body).wpIn Fence.wide n P Q a w := by
  refine wpIn_rangeFunc fun fn hfn => ?_
  let rec0 : LoopState → Option Code → Loop := fun st pe => { state := st, pending := pe, fn := fn, tmps := a.tmps, params := ps, assign := assign, body := body, defers := w.heap.size }
  have hB1 : Books w (rec0 .ready none) ((w.alloc (.deferred (some []))).alloc (.loop (rec0 .ready none))) := by
    refine ⟨?_, (heap_alloc_lt _ _ _ (by simp)).trans (heap_alloc_new _ _)⟩
    exact heap_alloc_at _ _ _ (by simp)
  have hsz : ((w.alloc (.deferred (some []))).alloc (.loop (rec0 .ready none))).heap.size = w.heap.size + 2 := by simp
  have hbel : Below w.heap.size w ((w.alloc (.deferred (some []))).alloc (.loop (rec0 .ready none))) := ((Below.refl _ w).alloc (Nat.le_refl _) _).alloc (by simp) _
  have hent := run_enterLoop_outer (P := P) (w := w) fn a.tmps ps assign body
  have own : ∀ {A : World} {row : Option Nat}, (∀ r, row = some r → w.heap.size + 2 ≤ r ∧ ∃ o : Obj, A.heap[r]? = some o ∧ o.isWalk = true) → ∀ r, row = some r → w.heap.size ≤ r ∧ ∃ o : Obj, A.heap[r]? = some o ∧ o.isCells = false :=
    fun hr r e => by obtain ⟨hB, o, ho, hw⟩ := hr r e; exact ⟨by omega, o, ho, Obj.not_cells_of_walk hw⟩
  refine ⟨w.heap.size + 1, [{ target := .collected w.heap.size, args := #[] }], (w.alloc (.deferred (some []))).alloc (.loop (rec0 .ready none)), { target := .fn (.func gf) lb, args := #[.func (.yield (w.heap.size + 1)) #[] #[]] }, (w.alloc (.deferred (some []))).alloc (.loop (rec0 .ready none)), gf,
    #[.func (.yield (w.heap.size + 1)) #[] #[]] ++ lb, (w.alloc (.deferred (some []))).alloc (.loop (rec0 .ready none)), hent, ?_, fun _ _ => trivial, ?_, fun h => by simp [Fence.wide] at h, ?_⟩
  · simp only [resolve, hg]; simp [go_sem]
  · simp [invoke, go_sem, eg]
  refine (hseq (w.heap.size + 1) (fun pre W => I pre W ∧ Books w (rec0 .ready none) W) (fun pre W => ∃ c, Ix c pre W ∧ Books w (rec0 .done (some c)) W) _ hbel (by rw [hsz]; exact Nat.le_refl _) ?_ ?_ ?_ ?_ ⟨hI.alloc _ (hI.alloc _ h0), hB1⟩).mono ?_
  · intro s A B row hs hg' hr
    rw [hsz] at hr
    exact ⟨hI s A B row hs.1 hg' (own hr), hs.2.abides (W1 := (w.alloc (.deferred (some []))).alloc (.loop (rec0 .ready none))) hg' (by rw [hsz]; exact hr)⟩
  · rintro s A B row ⟨c, h1, h2⟩ hg' hr
    rw [hsz] at hr
    exact ⟨c, hIx c s A B row h1 hg' (own hr), h2.abides (W1 := (w.alloc (.deferred (some []))).alloc (.loop (rec0 .ready none))) hg' (by rw [hsz]; exact hr)⟩
  · rintro s A b j v hb ⟨h1, h2⟩
    rw [hsz] at hb
    exact ⟨hIB _ _ _ _ _ (by omega) h1, h2.keeps ((KeepsOthers.setCell _ _ _).from _)⟩
  · rintro pre x W ⟨hi, hbk⟩ hx
    have hy := run_yield (P := P) (args := encs x) hbk.1 (hps x)
    refine ⟨fn, _, assign, body, hy, roundIn_of_wpIn hfn (hassign _ pre x W _ hi hx ?_)⟩
    intro a' Wa hk1 hp1 hi1 hax
    have hbk1 := hbk.keeps hk1
    have hl1 := heap_lt hbk1.1
    have hbk2 := hbk1.turn { rec0 .ready none with state := .busy }
    refine ⟨_, run_beginRound hbk1.1 rfl, wpIn_mono (hbody _ pre x a' _ (by omega) ⟨_, hbk2.1⟩ (hI.putObj _ hi1 (by omega) hbk1.1 rfl) ((hAx pre x a').putObj (s := ()) _ hax (by omega) hbk1.1 rfl)) ?_⟩
    have hp2 := hKb Wa (.loop { rec0 .ready none with state := .busy })
    intro e a3 W3 hpost
    have fin : ∀ (jump : Option Code), KeepsFrom w.heap.size (Wa.putObj (w.heap.size + 1) (.loop { rec0 .ready none with state := .busy })) W3 →
        (Instr.endRound (w.heap.size + 1) jump).run P W3 = .ok (.bool jump.isNone) (W3.putObj (w.heap.size + 1) (.loop (rec0 (if jump.isNone then .ready else .done) jump))) ∧ Books w { rec0 .ready none with state := .busy } W3 := fun jump hk3 => by
      have hb3 := hbk2.keeps hk3
      exact ⟨run_endRound (P := P) jump hb3.1, hb3⟩
    have stop : ∀ c, KeepsFrom w.heap.size (Wa.putObj (w.heap.size + 1) (.loop { rec0 .ready none with state := .busy })) W3 → Kp (Wa.putObj (w.heap.size + 1) (.loop { rec0 .ready none with state := .busy })) W3 → Ix c (pre ++ [x]) W3 →
        ∃ v w', (Instr.endRound (w.heap.size + 1) (some c)).run P W3 = .ok v w' ∧ ((Ending.returned v = .returned (.bool true) ∧ (I (pre ++ [x]) w' ∧ Books w (rec0 .ready none) w') ∧ Kp W w') ∨ (Ending.returned v = .returned (.bool false) ∧ (∃ c, Ix c (pre ++ [x]) w' ∧ Books w (rec0 .done (some c)) w') ∧ Kp W w')) := fun c hk3 hp3 hi3 => by
      obtain ⟨hr, hb3⟩ := fin (some c) hk3
      exact ⟨_, _, hr, .inr ⟨rfl, ⟨c, (hIx c).putObj _ hi3 (by omega) hb3.1 rfl, hb3.turn _⟩, hKt hp1 (hKt (hKt hp2 hp3) (hKb _ _))⟩⟩
    cases e with
    | normal =>
      obtain ⟨hk3, hp3, hi3⟩ := hpost
      obtain ⟨hr, hb3⟩ := fin none hk3
      exact ⟨_, _, hr, .inl ⟨rfl, ⟨hI.putObj _ hi3 (by omega) hb3.1 rfl, hb3.turn _⟩, hKt hp1 (hKt (hKt hp2 hp3) (hKb _ _))⟩⟩
    | ret => exact stop _ hpost.1 hpost.2.1 hpost.2.2
    | exit id => exact stop _ hpost.1 hpost.2.1 hpost.2.2
    | goto t => exact hpost.elim
    | panic ch => exact hpost.elim
    | outgrown => exact hpost.elim
  · rintro e W2 ⟨⟨v, rfl⟩, (⟨xs, hS, hi, hbk⟩ | ⟨pre, hSp, c, hi, hbk⟩)⟩
    · exact ⟨none, _, run_endLoop (P := P) hbk.1 (by simp [rec0]), hdone _ xs _ (Nat.le_refl _) hS (hI.putObj _ hi (by omega) hbk.1 rfl) ((World.putObj_heap_other (by omega)).trans hbk.2)⟩
    · exact ⟨some c, _, run_endLoop (P := P) hbk.1 (by simp [rec0]), hstop _ c pre _ (Nat.le_refl _) hSp ((hIx c).putObj _ hi (by omega) hbk.1 rfl) ((World.putObj_heap_other (by omega)).trans hbk.2)⟩

/-- the same, where the variable is in no box -/
theorem range_imgs {g : Operand} {ps : Array Tmp} {assign body : Code} {Q : Exit → Act → World → Prop} {a : Act} {w : World}
    {gf : Nat} {lb : Array Value} (hg : a.eval g = .func (.func gf) #[] lb) (eg : ∀ args w, (callFunc gf args).run P w = .ok (.enter gf args) w)
    {encs : α → Array Value} {Kp : World → World → Prop} {S Sp : List α → Prop} {Px : List α → α → World → Prop} (hseq : GivenB (n - 1) P gf lb encs Kp S Sp Px w)
    (hKr : ∀ A : World, Kp A A) (hKt : ∀ {A B C : World}, Kp A B → Kp B C → Kp A C) (hKb : ∀ (W : World) (o' : Obj), Kp W (W.putObj (w.heap.size + 1) o')) (hps : ∀ x, (encs x).size = ps.size)
    (I : List α → World → Prop) (Ix : Code → List α → World → Prop) (a₁ : α → Act) (hI : OwnFrom w.heap.size I) (hIx : ∀ c, OwnFrom w.heap.size (Ix c))
    (hIB : ∀ pre V b j v, w.heap.size ≤ b → I pre V → I pre (V.setCell ⟨b, j, none⟩ v)) (h0 : I [] w)
    (hassign : ∀ (l : Nat) (x : α) (W : World) (K : Act → World → Prop), K (a₁ x) W →
      assign.wpIn (Fence.wide.inRound l) (n - 1 - 1) P (Exit.then K (fun _ _ _ => False)) { tmps := (ps.zip (encs x)).foldl (fun t (p, v) => t.setIfInBounds p v) a.tmps, defers := [] } W)
    (hbody : ∀ (l : Nat) (pre : List α) (x : α) (W : World), w.heap.size ≤ l → I pre W → Px pre x W → body.wpIn (Fence.wide.inRound l) (n - 1 - 1) P (roundPostK w.heap.size Kp I Ix (pre ++ [x]) W) (a₁ x) W)
    (hPx : ∀ pre x a', OwnFrom w.heap.size (fun (_ : Unit) W => a' = a₁ x ∧ Px pre x W))
    (hdone : ∀ (D : Nat) (xs : List α) (W : World), w.heap.size ≤ D → S xs → I xs W → W.heap[D]? = some (.deferred (some [])) → Q .normal { a with defers := { target := .collected D, args := #[] } :: a.defers } W)
    (hstop : ∀ (D : Nat) (c : Code) (pre : List α) (W : World), w.heap.size ≤ D → Sp pre → Ix c pre W → W.heap[D]? = some (.deferred (some [])) → c.wpIn Fence.wide n P Q { a with defers := { target := .collected D, args := #[] } :: a.defers } W) :
    (Code.rangeFunc g ps assign body).wpIn Fence.wide n P Q a w :=
  range_bears hg eg hseq hKt hKb hps I Ix hI hIx hIB h0 (fun pre x a' W => a' = a₁ x ∧ Px pre x W) hPx
    (fun l pre x W K hi hx hK => hassign l x W K (hK _ _ (KeepsFrom.refl _ _) (hKr _) hi ⟨rfl, hx⟩)) (fun l pre x a' W hl hr hi hx => by obtain ⟨rfl, hx⟩ := hx; exact hbody l pre x W hl hi hx) hdone hstop
end
end Go.Proofs.YtmagkcioplcidabDoor

/- ply: smooth, and Smooth. -/
set_option linter.unusedVariables false
set_option linter.unusedSimpArgs false
namespace Go.Proofs.YtmagkcioplcidabDoor
open Go.RowKit Go.Shelf
attribute [local go_sem] Oper.semAt_some

set_option maxRecDepth 100000 in
theorem smooth_any (cs ds : List Nat) (w : World) :
    Calls Tryd.prog 29 #[spV cs, spV ds] w fun e w' => e = .returned (.func (.func 40) #[] #[.pointer (some ⟨w.heap.size, 0, none⟩), .pointer (some ⟨w.heap.size + 1, 0, none⟩)]) ∧ SpF w' w.heap.size cs.length (cell cs) ∧ SpF w' (w.heap.size + 1) ds.length (cell ds) ∧ Below w.heap.size w w' ∧ w'.heap.size = w.heap.size + 2 := by
  go_enter Tryd.func29, Tryd.ntmps29
  go_wp2_with fail
  go_ret
  exact ⟨rfl, alloc_old (heap_alloc_new _ _), heap_alloc_at _ _ _ (by simp), ((Below.refl _ _).alloc (Nat.le_refl _) _).alloc (by simp) _, by simp⟩

def imgEnc (x : List Nat) : Array Value := #[imF (cell x)]
def smoothsN (cs ds : List Nat) : List (List Nat) := smL cs ds cs.length []

set_option maxRecDepth 100000 in
set_option maxHeartbeats 1600000 in
theorem smooth1_given (X : Nat → Prop) (cs ds : List Nat) (hc : Codes cs) (hd : Codes ds) (Bx Bz m : Nat) (w : World)
    (hX : ∀ b, X b → b < w.heap.size + 2) (hXx : ¬ X Bx) (hXz : ¬ X Bz) (hBx : SpF w Bx cs.length (cell cs)) (hBz : SpF w Bz ds.length (cell ds)) :
    GivenB m Tryd.prog 40 #[.pointer (some ⟨Bx, 0, none⟩), .pointer (some ⟨Bz, 0, none⟩)] imgEnc (KeepX X) (fun zs => zs = smoothsN cs ds) (fun zs => zs <+: smoothsN cs ds) (fun pre x W => x.length = cs.length) w := by
  intro l J Jx W hW hWs hJ hJx hJB hY h0
  refine CallsIn.any (m := 9) _ ?_
  have hBx1 : SpF W Bx cs.length (cell cs) := (hW.block Bx hBx.lt).trans hBx
  have hBz1 : SpF W Bz ds.length (cell ds) := (hW.block Bz hBz.lt).trans hBz
  refine (callsIn_of_wp Tryd.func40 rfl trivial ?_ rfl)
  simp only [Tryd.ntmps40, List.size_toArray, List.length_cons, List.length_nil, Nat.reduceAdd, Nat.reduceSub, Array.replicate_succ, Array.replicate_zero, List.push_toArray, List.append_toArray, List.nil_append, List.cons_append]
  gi_wp2_with fail
  have hXW : ∀ b, X b → b < W.heap.size := fun b hb => Nat.lt_of_lt_of_le (hX b hb) hWs
  have hYok : YieldI X cs.length l J Jx := fun pre x W1 h1 h2 => by
    obtain ⟨fn, tmps, ca, bd, h3, h4⟩ := hY pre x W1 h1 h2
    exact ⟨fn, tmps, ca, bd, h3, RoundIn.any 0 h4⟩
  generalize hW2 : World.alloc (World.alloc W _) _ = W2
  have hbW : Below W.heap.size W W2 := by rw [← hW2]; exact ((Below.refl _ _).alloc (Nat.le_refl _) _).alloc (by simp) _
  have hcap : CapsI X cs ds l Bx W.heap.size Bz (W.heap.size + 1) W2 := by
    refine ⟨hBx1.below hbW, ?_, hBz1.below hbW, ?_, hXx, fun h => by have := hXW _ h; omega, hXz, fun h => by have := hXW _ h; omega⟩
    · rw [← hW2]; exact alloc_old (heap_alloc_new _ _)
    · rw [← hW2]; exact heap_alloc_at _ _ _ (by simp)
  clear hW2
  have hj2 : J [] W2 := hJ _ _ _ none h0 (below_grown0 hbW) (fun _ e => by cases e)
  refine ⟨trivial, (CallsIn.any 8 (extend_in X cs ds hc hd l Bx W.heap.size Bz (W.heap.size + 1) W.heap.size hXW J Jx hJ hJB hYok cs.length [] W2 [] (by simp) (by simp) hbW.size hcap hj2)).mono ?_⟩
  rintro e W' ⟨c, rfl, hext⟩
  have HE := Lib.hid hext
  clear hext
  gi_wp2_with fail
  go_end0
  refine ⟨⟨_, rfl⟩, ?_⟩
  cases c
  · obtain ⟨ys, g1, g2⟩ := HE.out.2.2 rfl
    exact .inr ⟨ys, g1, by simpa using g2⟩
  · exact .inl ⟨_, rfl, by simpa [smoothsN] using HE.out.2.1 rfl⟩

theorem smL_len (cs ds : List Nat) : ∀ d l, (smL cs ds d l).length ≤ ds.length ^ d
  | 0, l => by simp [smL]
  | d + 1, l => by
    simp only [smL]
    rw [List.length_flatMap]
    have : ∀ (f : Nat → Nat) (m : Nat), (∀ r, f r ≤ ds.length ^ d) → ((List.range m).map f).sum ≤ m * ds.length ^ d := by
      intro f m hf
      induction m with
      | zero => simp
      | succ m ih => rw [List.range_succ, List.map_append, List.sum_append]; simp only [List.map_cons, List.map_nil, List.sum_cons, List.sum_nil]; have := hf m; rw [Nat.succ_mul]; omega
    refine Nat.le_trans (this _ ds.length (fun r => ?_)) (by rw [Nat.pow_succ, Nat.mul_comm]; exact Nat.le_refl _)
    split
    · exact smL_len cs ds d _
    · simp
theorem smooths_few {cs ds : List Nat} (hc : Codes cs) (hd : Codes ds) : (smoothsN cs ds).length ≤ 46656 := by
  refine Nat.le_trans (smL_len cs ds _ _) ?_
  refine Nat.le_trans (Nat.pow_le_pow_left hd.2.1 _) ?_
  exact Nat.le_trans (Nat.pow_le_pow_right (by omega) hc.2.1) (by decide)
theorem wrap_next {α : Type} (pre : List α) (x : α) : wrap64 (((pre ++ [x]).length : Nat) : Int) = wrap64 (wrap64 pre.length + 1) := by simp only [List.length_append, List.length_singleton]; push_cast; unfold wrap64; omega
theorem wrap64_small {k : Int} (h1 : -9223372036854775808 ≤ k) (h2 : k ≤ 9223372036854775807) : wrap64 k = k := by unfold wrap64; omega

set_option maxRecDepth 100000 in
set_option maxHeartbeats 1600000 in
theorem Smooth_yes (v u : Value) (cs ds : List Nat) (w : World) (hr : Reads w v (ofNats cs)) (hru : Reads w u (ofNats ds)) (hc : Codes cs) (hd : Codes ds) (hsp : spaceB cs = true) (hsq : spaceB ds = true) (hT : Tab w) :
    Calls Tryd.prog 16 #[v, u] w fun e w' => e = .returned (.tuple #[.int .i64 (smoothsN cs ds).length, .int .i64 0]) ∧ Below w.heap.size w w' := by
  have hr0 := hr
  have hru0 := hru
  obtain ⟨a, cap, rfl, _, _, _⟩ := hr.open
  obtain ⟨a2, cap2, rfl, _, _, _⟩ := hru.open
  clear hr hru
  refine (callsIn_wide (n := 20)).1 ?_
  refine callsIn_of_wp_marks Tryd.func16 rfl trivial ?_ rfl
  simp only [Tryd.ntmps16, List.size_toArray, List.length_cons, List.length_nil, Nat.reduceAdd, Nat.reduceSub, Array.replicate_succ, Array.replicate_zero, List.push_toArray, List.append_toArray, List.nil_append, List.cons_append]
  gi_wp2_with fail
  refine ⟨trivial, (callsIn_wide.2 (newSpace_yes _ cs _ hr0 hc hsp hT)).mono ?_⟩
  rintro e w1 ⟨rfl, hb1⟩
  obtain ⟨hs1, hb2⟩ := lay_sp hb1 cs.length (cell cs)
  have hT2 := hT.below hb2
  have hru2 := hru0.below hb2
  gi_wp2_with fail
  generalize hW : World.alloc w1 _ = W at *
  generalize hX : w1.heap.size = Bx at *
  clear hW hX
  refine ⟨trivial, (callsIn_wide.2 (newSpace_yes _ ds _ hru2 hd hsq hT2)).mono ?_⟩
  rintro e w2 ⟨rfl, hb3⟩
  obtain ⟨hs2, hb4⟩ := lay_sp hb3 ds.length (cell ds)
  have hs1' := hs1.below hb4
  have hb5 := below_to hb2 hb2.size hb4
  have hal := (Below.refl _ (w2.alloc (.cells #[.int .i64 ds.length, .int .u64 (cell ds 0), .int .u64 (cell ds 1), .int .u64 (cell ds 2), .int .u64 (cell ds 3), .int .u64 (cell ds 4), .int .u64 (cell ds 5)] 35))).alloc (Nat.le_refl _) (.cells #[.int .i64 0] 3)
  have h1 := hs1'.below hal
  have h2 := hs2.below hal
  have hb6 := below_to hb5 hb5.size hal
  have hbx := hs1'.lt
  have hwx : w.heap.size ≤ w2.heap.size := Nat.le_trans hb2.size hb3.size
  obtain ⟨d0, d1, d2, d3, d4, d5, d6⟩ := h1.cells
  obtain ⟨e0, e1, e2, e3, e4, e5, e6⟩ := h2.cells
  have hn0 : ((w2.alloc (.cells #[.int .i64 ds.length, .int .u64 (cell ds 0), .int .u64 (cell ds 1), .int .u64 (cell ds 2), .int .u64 (cell ds 3), .int .u64 (cell ds 4), .int .u64 (cell ds 5)] 35)).alloc (.cells #[.int .i64 0] 3)).heap[w2.heap.size + 1]? = some (.cells #[.int .i64 0] 3) := heap_alloc_at _ _ _ (by simp)
  have HN0 := Lib.hid hn0
  clear hs1 hb1 hb3 hb4 hb2 hr0 hru0 hru2 hT2 hs1' hs2 h1 h2 hal hn0 hb5
  gi_wp2_with fail
  clear d0 d1 d2 d3 d4 d5 d6 e0 e1 e2 e3 e4 e5 e6
  generalize hW3 : World.alloc (World.alloc w2 _) _ = W3 at *
  have hsz : W3.heap.size = w2.heap.size + 2 := by rw [← hW3]; simp
  clear hW3
  refine ⟨trivial, (callsIn_wide.2 (smooth_any cs ds _)).mono ?_⟩
  rintro e w3 ⟨rfl, h1, h2, h3, h4⟩
  have hn := (h3.block _ (heap_lt HN0.out)).trans HN0.out
  have hbW := below_to hb6 hb6.size h3
  clear HN0
  rw [hsz] at h1 h2 ⊢
  generalize hBn : w2.heap.size = Bn at *
  gi_wp2_with fail
  have hsz3 : w3.heap.size = Bn + 4 := by omega
  have hb0 : w3.heap[Bn + 1]? = some (.cells #[.int .i64 0] 3) := hn
  have hL := smooths_few hc hd
  refine range_imgs (gf := 40) (lb := #[.pointer (some ⟨Bn + 2, 0, none⟩), .pointer (some ⟨Bn + 2 + 1, 0, none⟩)]) rfl (enters_of Tryd.func40 (by kernel_rfl) rfl)
    (smooth1_given (fun b => b = Bn + 1 ∨ b = w3.heap.size ∨ b = w3.heap.size + 1) cs ds hc hd (Bn + 2) (Bn + 2 + 1) _ w3 (by omega) (by omega) (by omega) h1 h2)
    (fun A => KeepX.refl _ _) (fun h k => KeepX.trans h k) (fun W o' => KeepX.putObj (.inr (.inr rfl))) (fun _ => rfl)
    (fun pre W => W.heap[Bn + 1]? = some (.cells #[.int .i64 (wrap64 pre.length)] 3) ∧ Below w.heap.size w W)
    (fun c pre W => False) ?a1 ?hI (fun c s W W' row h _ _ => h) ?hIB ⟨by rw [show wrap64 ((([] : List (List Nat)).length : Nat) : Int) = 0 from wrap64_small (by simp) (by simp)]; exact hb0, hbW⟩
    ?assign ?body (fun pre x a' s W W' row h _ _ => h) ?done ?stop
  case assign =>
    intro l x W K hK
    simp only [imgEnc]
    gi_wp2
    exact hK
  case hI =>
    rintro s W W' row ⟨h1, h2⟩ hg hr
    exact ⟨own_block hg hr (by omega) h1, h2.grown hg h2.size (fun k e => by have := (hr k e).1; omega)⟩
  case hIB =>
    rintro s W b j v hb ⟨h1, h2⟩
    exact ⟨(heap_setCell_other _ _ _ _ (by show Bn + 1 ≠ b; omega)).trans h1, h2.setCell (p := ⟨b, j, none⟩) (by show w.heap.size ≤ b; omega) _⟩
  case body =>
    rintro l pre x W hl ⟨h1, h2⟩ hx
    have c1 := cell_of h1 (j := 0) rfl
    have f1 := free_of h1 0
    gi_wp2
    have hk : KeepsFrom w3.heap.size W (W.setCell ⟨Bn + 1, 0, none⟩ (.int .i64 (wrap64 (wrap64 pre.length + 1)))) := (KeepsOthers.setCell _ _ _).from _
    refine ⟨hk, ⟨by simp, fun b hb hx => ?_⟩, ?_, h2.setCell (p := ⟨Bn + 1, 0, none⟩) (by show w.heap.size ≤ Bn + 1; omega) _⟩
    · exact heap_setCell_other _ _ _ _ (fun e => hx (.inl e))
    · rw [show wrap64 (((pre ++ [x]).length : Nat) : Int) = wrap64 (wrap64 pre.length + 1) from wrap_next pre x]
      exact set_same h1
  case done =>
    rintro D zs W hD rfl ⟨h1, h2⟩ hK
    have hlen : wrap64 (smoothsN cs ds).length = (smoothsN cs ds).length := wrap64_small (by omega) (by omega)
    rw [hlen] at h1
    have c1 := cell_of h1 (j := 0) rfl
    clear hlen
    gi_wp2
    refine ⟨by simp, .inl ⟨_, _, rfl, run_takeDeferred hK, ?_⟩⟩
    refine ⟨_, results_tmp2 rfl _ _ _, rfl, ?_⟩
    exact h2.trans (belowK_b (w := w) (Nat.le_refl _) _ D _ _ (by omega) hK rfl rfl)
  case stop =>
    rintro D c pre W hD hpre h
    exact h.elim
end Go.Proofs.YtmagkcioplcidabDoor

/- The smooth maps are as many as the numbers whose digits are a smooth map: plain numbers. -/
set_option linter.unusedVariables false
set_option linter.unusedSimpArgs false
namespace Go.Proofs.YtmagkcioplcidabDoor

def fitAll (cs ds : List Nat) : List Nat → List Nat → Bool
  | _, [] => true
  | l, q :: r => fitB cs ds l q && fitAll cs ds (l ++ [q]) r
theorem smL_succ (cs ds : List Nat) (d : Nat) (l : List Nat) : (smL cs ds (d + 1) l).length = sN (fun q => if fitB cs ds l q = true then (smL cs ds d (l ++ [q])).length else 0) ds.length := by
  show ((List.range ds.length).flatMap _).length = _
  rw [flat_len]
  exact sN_same _ fun q _ => by split <;> rfl
theorem smL_count {cs ds : List Nat} (hm : 0 < ds.length) : ∀ d l, (smL cs ds d l).length = cntTo (fun x => fitAll cs ds l (digits ds.length d x)) (ds.length ^ d)
  | 0, l => rfl
  | d + 1, l => by
    rw [smL_succ, Nat.pow_succ, Nat.mul_comm, cnt_mul]
    refine sN_same _ fun q hq => ?_
    have h : ∀ y, fitAll cs ds l (digits ds.length (d + 1) (q + ds.length * y)) = (fitB cs ds l q && fitAll cs ds (l ++ [q]) (digits ds.length d y)) := fun y => by
      show (fitB cs ds l ((q + ds.length * y) % ds.length) && fitAll cs ds (l ++ [(q + ds.length * y) % ds.length]) (digits ds.length d ((q + ds.length * y) / ds.length))) = _
      rw [Nat.add_mul_mod_self_left, Nat.mod_eq_of_lt hq, Nat.add_mul_div_left _ _ hm, Nat.div_eq_of_lt hq, Nat.zero_add]
    rw [cnt_same _ (fun y _ => h y)]
    rcases hb : fitB cs ds l q with _ | _
    · simp only [Bool.false_and]; rw [cnt_false]; rfl
    · simp only [Bool.true_and]; rw [if_pos trivial, smL_count hm d]

/-- a map is smooth -/
def smoothB (cs ds f : List Nat) : Bool := (List.range cs.length).all fun q => (List.range cs.length).all fun p => !(cell cs q).testBit p || (cell ds (cell f q)).testBit (cell f p)
theorem smooth_iff {cs ds f : List Nat} : smoothB cs ds f = true ↔ ∀ q p, q < cs.length → p < cs.length → (cell cs q).testBit p = true → (cell ds (cell f q)).testBit (cell f p) = true := by
  unfold smoothB
  simp only [List.all_eq_true, List.mem_range, Bool.or_eq_true, Bool.not_eq_true']
  constructor
  · intro h q p hq hp hb
    rcases h q hq p hp with h2 | h2
    · rw [h2] at hb; cases hb
    · exact h2
  · intro h q hq p hp
    rcases hb : (cell cs q).testBit p with _ | _
    · exact .inl rfl
    · exact .inr (h q p hq hp hb)
theorem fitTo_iff {cs ds : List Nat} {p : Nat} {g : Nat → Nat} {q : Nat} : ∀ k, fitTo cs ds p g q k = true ↔ ∀ o, o < k → fit1 cs ds p g q o = true
  | 0 => by simp [fitTo]
  | k + 1 => by
    show (fitTo cs ds p g q k && fit1 cs ds p g q k) = true ↔ _
    rw [Bool.and_eq_true, fitTo_iff k]
    constructor
    · rintro ⟨h1, h2⟩ o ho
      by_cases e : o = k
      · subst e; exact h2
      · exact h1 o (by omega)
    · exact fun h => ⟨fun o ho => h o (by omega), h k (by omega)⟩
theorem cell_app_left {l r : List Nat} {j : Nat} (h : j < l.length) : cell (l ++ r) j = cell l j := by
  unfold cell; simp [List.getElem?_append_left h]
theorem cell_app_mid (l : List Nat) (q : Nat) (r : List Nat) : cell (l ++ q :: r) l.length = q := by
  unfold cell; simp
theorem fitAll_iff {cs ds : List Nat} : ∀ (r l : List Nat), fitAll cs ds l r = true ↔ ∀ p, l.length ≤ p → p < l.length + r.length → ∀ o, o < p → fit1 cs ds p (cell (l ++ r)) (cell (l ++ r) p) o = true
  | [], l => by simp [fitAll]; omega
  | q :: r, l => by
    show (fitB cs ds l q && fitAll cs ds (l ++ [q]) r) = true ↔ _
    rw [Bool.and_eq_true, fitAll_iff r (l ++ [q])]
    unfold fitB
    rw [fitTo_iff]
    have e : l ++ [q] ++ r = l ++ q :: r := by simp
    rw [e]
    have h1 : ∀ o, o < l.length → (fit1 cs ds l.length (cell (l ++ [q])) q o = fit1 cs ds l.length (cell (l ++ q :: r)) q o) := fun o ho => by
      unfold fit1; rw [cell_app_left ho, cell_app_left ho]
    constructor
    · rintro ⟨h2, h3⟩ p hp hpl o ho
      by_cases e2 : p = l.length
      · subst e2; rw [cell_app_mid, ← h1 o ho]; exact h2 o ho
      · exact h3 p (by simp; omega) (by simp at hpl ⊢; omega) o ho
    · intro h
      refine ⟨fun o ho => ?_, fun p hp hpl o ho => h p (by simp at hp; omega) (by simp at hpl ⊢; omega) o ho⟩
      have := h l.length (Nat.le_refl _) (by simp) o ho
      rw [cell_app_mid] at this
      rw [h1 o ho]; exact this
theorem fitAll_smooth {cs ds : List Nat} (hs : spaceB ds = true) {f : List Nat} (hl : f.length = cs.length) (hf : ∀ p, p < cs.length → cell f p < ds.length) : fitAll cs ds [] f = smoothB cs ds f := by
  rw [Bool.eq_iff_iff, fitAll_iff, smooth_iff]
  simp only [List.nil_append, List.length_nil, Nat.zero_add, Nat.zero_le, true_implies]
  have e1 : ∀ p o, fit1 cs ds p (cell f) (cell f p) o = true ↔ ((cell cs p).testBit o = true → (cell ds (cell f p)).testBit (cell f o) = true) ∧ ((cell cs o).testBit p = true → (cell ds (cell f o)).testBit (cell f p) = true) := fun p o => by
    unfold fit1
    cases (cell cs p).testBit o <;> cases (cell cs o).testBit p <;> simp
  constructor
  · intro h q p hq hp hb
    by_cases h1 : q = p
    · subst h1; exact (space_iff.1 hs _ (hf q hq)).1
    · by_cases h2 : p < q
      · exact ((e1 q p).1 (h q (by omega) p h2)).1 hb
      · exact ((e1 p q).1 (h p (by omega) q (by omega))).2 hb
  · intro h p hp o ho
    rw [e1]
    exact ⟨h p o (by omega) (by omega), h o p (by omega) (by omega)⟩
theorem cell_lt {f : List Nat} {m p : Nat} (h : ∀ x ∈ f, x < m) (hp : p < f.length) : cell f p < m := by
  unfold cell
  rw [List.getD_eq_getElem?_getD, List.getElem?_eq_getElem hp]
  exact h _ (List.getElem_mem hp)
/-- as many as the reference counts -/
theorem smooths_count {cs ds : List Nat} (hd : Codes ds) (hs : spaceB ds = true) : (smoothsN cs ds).length = cntTo (fun x => smoothB cs ds (digits ds.length cs.length x)) (ds.length ^ cs.length) := by
  unfold smoothsN
  have hm : 0 < ds.length := by have := hd.1; omega
  rw [smL_count hm]
  refine cnt_same _ fun x _ => fitAll_smooth hs (digits_len _ _ _) fun p hp => ?_
  exact cell_lt (digits_lt hm _ _) (by rw [digits_len]; exact hp)

/-! ### every map is smooth -/
theorem smL_all {cs ds : List Nat} {n : Nat} (h : ∀ l q, (∀ x ∈ l, x < ds.length) → q < ds.length → l.length < n → fitB cs ds l q = true) : ∀ d l, (∀ x ∈ l, x < ds.length) → l.length + d = n → (smL cs ds d l).length = ds.length ^ d
  | 0, l, _, _ => rfl
  | d + 1, l, hl, hn => by
    rw [smL_succ, sN_same (g := fun _ => ds.length ^ d) _ (fun q hq => ?_), sN_const, Nat.pow_succ, Nat.mul_comm]
    show (if fitB cs ds l q = true then (smL cs ds d (l ++ [q])).length else 0) = ds.length ^ d
    rw [if_pos (h l q hl hq (by omega))]
    refine smL_all h d _ (fun x hx => ?_) (by simp; omega)
    rcases List.mem_append.1 hx with h1 | h1
    · exact hl x h1
    · rw [List.mem_singleton.1 h1]; exact hq
theorem fitB_iff {cs ds l : List Nat} {q : Nat} : fitB cs ds l q = true ↔ ∀ o, o < l.length → ((cell cs l.length).testBit o = true → (cell ds q).testBit (cell l o) = true) ∧ ((cell cs o).testBit l.length = true → (cell ds (cell l o)).testBit q = true) := by
  unfold fitB
  rw [fitTo_iff]
  have e : ∀ o, o < l.length → (fit1 cs ds l.length (cell (l ++ [q])) q o = true ↔ ((cell cs l.length).testBit o = true → (cell ds q).testBit (cell l o) = true) ∧ ((cell cs o).testBit l.length = true → (cell ds (cell l o)).testBit q = true)) := fun o ho => by
    unfold fit1
    rw [cell_app_left ho]
    cases (cell cs l.length).testBit o <;> cases (cell cs o).testBit l.length <;> simp
  exact ⟨fun h o ho => (e o ho).1 (h o ho), fun h o ho => (e o ho).2 (h o ho)⟩
/-- all points of the second space are alike -/
theorem smooths_alike {cs ds : List Nat} (h : ∀ p q, p < ds.length → q < ds.length → (cell ds p).testBit q = true) : (smoothsN cs ds).length = ds.length ^ cs.length :=
  smL_all (n := cs.length) (fun l q hl hq _ => fitB_iff.2 fun o ho => ⟨fun _ => h _ _ hq (cell_lt hl ho), fun _ => h _ _ (cell_lt hl ho) hq⟩) _ _ (by simp) (by simp)
/-- all cells of the first space have one point -/
theorem smooths_single {cs ds : List Nat} (h : ∀ p q, p < cs.length → (cell cs p).testBit q = true → p = q) : (smoothsN cs ds).length = ds.length ^ cs.length :=
  smL_all (n := cs.length) (fun l q hl hq hn => fitB_iff.2 fun o ho => ⟨fun hb => by have := h _ _ hn hb; omega, fun hb => by have := h _ _ (show o < cs.length by omega) hb; omega⟩) _ _ (by simp) (by simp)
theorem smL_const {cs : List Nat} (hs : spaceB cs = true) {q : Nat} (hq : q < cs.length) : ∀ d l, (∀ o, o < l.length → cell l o = q) → 1 ≤ (smL cs cs d l).length
  | 0, l, _ => Nat.le_refl _
  | d + 1, l, h => by
    have h1 : fitB cs cs l q = true := fitB_iff.2 fun o ho => by
      rw [h o ho]
      exact ⟨fun _ => (space_iff.1 hs q hq).1, fun _ => (space_iff.1 hs q hq).1⟩
    have h2 := smL_const hs hq d (l ++ [q]) (fun o ho => by
      by_cases e : o < l.length
      · rw [cell_app_left e]; exact h o e
      · obtain rfl : o = l.length := by simp at ho; omega
        exact cell_app_mid l q [])
    rw [smL_succ]
    have h3 : ∀ m, q < m → 1 ≤ sN (fun q => if fitB cs cs l q = true then (smL cs cs d (l ++ [q])).length else 0) m := by
      intro m
      induction m with
      | zero => intro h; omega
      | succ m ih =>
        intro hm
        show 1 ≤ sN (fun q => if fitB cs cs l q = true then (smL cs cs d (l ++ [q])).length else 0) m + (if fitB cs cs l m = true then (smL cs cs d (l ++ [m])).length else 0)
        by_cases e : q = m
        · subst e; rw [if_pos h1]; omega
        · have := ih (by omega); omega
    exact h3 _ hq
/-- the maps that take all points to one -/
theorem smooths_self {cs : List Nat} (hc : Codes cs) (hs : spaceB cs = true) : cs.length ≤ (smoothsN cs cs).length := by
  unfold smoothsN
  obtain ⟨d, hd⟩ : ∃ d, cs.length = d + 1 := ⟨cs.length - 1, by have := hc.1; omega⟩
  have h0 : (smL cs cs cs.length []).length = (smL cs cs (d + 1) []).length := by rw [hd]
  rw [h0, smL_succ]
  refine sN_ge _ fun q hq => ?_
  have h1 : fitB cs cs [] q = true := fitB_iff.2 fun o ho => by simp at ho
  rw [if_pos h1]
  exact smL_const hs hq d _ (fun o ho => by
    obtain rfl : o = 0 := by simp at ho; omega
    rfl)
end Go.Proofs.YtmagkcioplcidabDoor

/- ply: Count: the spaces, counted by a recursion over their cells. -/
set_option linter.unusedVariables false
set_option linter.unusedSimpArgs false
namespace Go.Proofs.YtmagkcioplcidabDoor
open Go.RowKit Go.Shelf

theorem all_anyF (n : Nat) (c : Nat → Nat) (w : World) (hn : n ≤ 6) :
    Calls Tryd.prog 11 #[spF n c] w fun e w' => e = .returned (.int .u64 (allN n : Nat)) ∧ Below w.heap.size w w' := by
  have hz := Lib.hid (all_num n hn)
  go_enter Tryd.func11, Tryd.ntmps11
  go_wp2_with fail
  go_ret
  exact ⟨ret_int hz.out, (Below.refl _ _).alloc (Nat.le_refl _) _⟩

abbrev cntPs (H : Nat) : Array Value := #[.pointer (some ⟨H, 0, none⟩), .pointer (some ⟨H + 1, 0, none⟩), .pointer (some ⟨H + 2, 0, none⟩), .pointer (some ⟨H + 3, 0, none⟩)]
structure CntC (n H A B : Nat) (W : World) : Prop where
  tab : Tab W
  far : 1 < H
  n0 : W.heap[H]? = some (.cells #[.int .i64 n] 3)
  a0 : W.heap[H + 1]? = some (.cells #[.int .i64 A] 3)
  b0 : W.heap[H + 2]? = some (.cells #[.int .i64 B] 3)
  e0 : W.heap[H + 3]? = some (.cells #[.func (.func 8) #[] #[.pointer (some ⟨H, 0, none⟩), .pointer (some ⟨H + 1, 0, none⟩), .pointer (some ⟨H + 2, 0, none⟩), .pointer (some ⟨H + 3, 0, none⟩)]] 30)
theorem CntC.lt {n H A B : Nat} {W : World} (h : CntC n H A B W) : H + 3 < W.heap.size := heap_lt h.e0
theorem CntC.below {n H A B : Nat} {W W' : World} (h : CntC n H A B W) (hb : Below W.heap.size W W') : CntC n H A B W' :=
  ⟨h.tab.below hb, h.far, (hb.block _ (heap_lt h.n0)).trans h.n0, (hb.block _ (heap_lt h.a0)).trans h.a0, (hb.block _ (heap_lt h.b0)).trans h.b0, (hb.block _ (heap_lt h.e0)).trans h.e0⟩
theorem CntC.setA {n H A B A' : Nat} {W : World} (h : CntC n H A B W) : CntC n H A' B (W.setCell ⟨H + 1, 0, none⟩ (.int .i64 A')) :=
  ⟨h.tab.block (heap_setCell_other _ _ _ _ (by have := h.far; show _ ≠ H + 1; omega)), h.far, set_other h.n0 (by omega), set_same h.a0, set_other h.b0 (by omega), set_other h.e0 (by omega)⟩
theorem CntC.setB {n H A B B' : Nat} {W : World} (h : CntC n H A B W) : CntC n H A B' (W.setCell ⟨H + 2, 0, none⟩ (.int .i64 B')) :=
  ⟨h.tab.block (heap_setCell_other _ _ _ _ (by have := h.far; show _ ≠ H + 2; omega)), h.far, set_other h.n0 (by omega), set_other h.a0 (by omega), set_same h.b0, set_other h.e0 (by omega)⟩
theorem CntC.other {n H A B : Nat} {W : World} (h : CntC n H A B W) {b : Nat} (hb : H + 3 < b) (j : Nat) (v : Value) : CntC n H A B (W.setCell ⟨b, j, none⟩ v) :=
  ⟨h.tab.block (heap_setCell_other _ _ _ _ (by have := h.far; show _ ≠ b; omega)), h.far, (heap_setCell_other _ _ _ _ (by show _ ≠ b; omega)).trans h.n0, (heap_setCell_other _ _ _ _ (by show _ ≠ b; omega)).trans h.a0, (heap_setCell_other _ _ _ _ (by show _ ≠ b; omega)).trans h.b0, (heap_setCell_other _ _ _ _ (by show _ ≠ b; omega)).trans h.e0⟩
/-- all is kept but two counters -/
structure KeepC (H : Nat) (W W' : World) : Prop where
  os : W'.os = W.os
  tape : W'.tape = W.tape
  output : W'.output = W.output
  size : W.heap.size ≤ W'.heap.size
  block : ∀ k, k < W.heap.size → k ≠ H + 1 → k ≠ H + 2 → W'.heap[k]? = W.heap[k]?
theorem KeepC.refl (H : Nat) (W : World) : KeepC H W W := ⟨rfl, rfl, rfl, Nat.le_refl _, fun _ _ _ _ => rfl⟩
theorem KeepC.trans {H : Nat} {A B C : World} (h : KeepC H A B) (k : KeepC H B C) : KeepC H A C := ⟨k.os.trans h.os, k.tape.trans h.tape, k.output.trans h.output, Nat.le_trans h.size k.size, fun i hi h1 h2 => (k.block i (Nat.lt_of_lt_of_le hi h.size) h1 h2).trans (h.block i hi h1 h2)⟩
theorem KeepC.of_below {H : Nat} {A B : World} (h : Below A.heap.size A B) : KeepC H A B := ⟨h.os, h.tape, h.output, h.size, fun k hk _ _ => h.block k hk⟩
theorem KeepC.setA (H : Nat) (W : World) (v : Value) : KeepC H W (W.setCell ⟨H + 1, 0, none⟩ v) :=
  have h := (Below.refl 0 W).setCell (p := ⟨H + 1, 0, none⟩) (Nat.zero_le _) v
  ⟨h.os, h.tape, h.output, h.size, fun k _ h1 _ => heap_setCell_other _ _ _ _ h1⟩
theorem KeepC.setB (H : Nat) (W : World) (v : Value) : KeepC H W (W.setCell ⟨H + 2, 0, none⟩ v) :=
  have h := (Below.refl 0 W).setCell (p := ⟨H + 2, 0, none⟩) (Nat.zero_le _) v
  ⟨h.os, h.tape, h.output, h.size, fun k _ _ h2 => heap_setCell_other _ _ _ _ h2⟩
theorem KeepC.other {H : Nat} {W W' : World} (h : KeepC H W W') (j : Nat) (v : Value) : KeepC H W (W'.setCell ⟨W.heap.size, j, none⟩ v) :=
  have g := (Below.refl 0 W').setCell (p := ⟨W.heap.size, j, none⟩) (Nat.zero_le _) v
  ⟨g.os.trans h.os, g.tape.trans h.tape, g.output.trans h.output, Nat.le_trans h.size g.size, fun k hk h1 h2 => (heap_setCell_other _ _ _ _ (by show k ≠ W.heap.size; omega)).trans (h.block k hk h1 h2)⟩
theorem KeepC.below {H B : Nat} {W W' : World} (h : KeepC H W W') (hB : B ≤ H) (hW : B ≤ W.heap.size) : Below B W W' := ⟨h.os, h.tape, h.output, h.size, fun k hk => h.block k (by omega) (by omega) (by omega)⟩
theorem KeepC.sp {H b n : Nat} {c : Nat → Nat} {W W' : World} (h : KeepC H W W') (hs : SpF W b n c) (hb : H + 3 < b) : SpF W' b n c := (h.block b hs.lt (by omega) (by omega)).trans hs
theorem leavesTo_le (P : List Nat → Bool) (N d : Nat) (l : List Nat) : ∀ k m, leavesTo P N d l m ≤ leavesTo P N d l (m + k)
  | 0, m => Nat.le_refl _
  | k + 1, m => Nat.le_trans (leavesTo_le P N d l k m) (by rw [← Nat.add_assoc, leavesTo_succ]; omega)
theorem wrap_inc {k : Nat} (h : k ≤ 70000) : wrap64 ((k : Int) + 1) = ((k + 1 : Nat) : Int) := by unfold wrap64; omega

set_option maxRecDepth 100000 in
set_option maxHeartbeats 3200000 in
theorem extend_cnt (n N H : Nat) (hn1 : 1 ≤ n) (hn6 : n ≤ 6) (hN : 2 ^ n = N) : ∀ (d : Nat) (lst : List Nat) (W : World) (A B : Nat), lst.length + d = n → (∀ x ∈ lst, x < N) → A + leaves spaceB N d lst ≤ 70000 → B + leaves spacePlain N d lst ≤ 70000 → CntC n H A B W →
    Calls Tryd.prog 8 #[spF n (cell lst), .int .i64 lst.length, .pointer (some ⟨H, 0, none⟩), .pointer (some ⟨H + 1, 0, none⟩), .pointer (some ⟨H + 2, 0, none⟩), .pointer (some ⟨H + 3, 0, none⟩)] W fun e W' => e = .returned (.tuple #[]) ∧ CntC n H (A + leaves spaceB N d lst) (B + leaves spacePlain N d lst) W' ∧ KeepC H W W' := by
  intro d
  induction d with
  | zero =>
    intro lst W A B hdl hsm hA hB hcap
    have hnl : n = lst.length := by omega
    have hc : Codes lst := ⟨by omega, by omega, fun p => by
      rw [← hnl, hN]
      by_cases hp : p < lst.length
      · exact cell_lt hsm hp
      · rw [cell_far (by omega), ← hN]; exact Nat.two_pow_pos _⟩
    have hl1 : leaves spaceB N 0 lst = if spaceB lst = true then 1 else 0 := rfl
    have hl2 : leaves spacePlain N 0 lst = if spacePlain lst = true then 1 else 0 := rfl
    have hspp : spacePlain lst = (spaceB lst && plainB lst) := rfl
    rw [hspp] at hl2
    generalize leaves spaceB N 0 lst = LA at *
    generalize leaves spacePlain N 0 lst = LB at *
    have HLA := Lib.hid hl1
    have HLB := Lib.hid hl2
    clear hl1 hl2 hspp hN hsm
    subst hnl
    have hal := (Below.refl W.heap.size W).alloc (Nat.le_refl _) (.cells #[.int .i64 lst.length, .int .u64 (cell lst 0), .int .u64 (cell lst 1), .int .u64 (cell lst 2), .int .u64 (cell lst 3), .int .u64 (cell lst 4), .int .u64 (cell lst 5)] 35)
    have hsp : SpF (W.alloc (.cells #[.int .i64 lst.length, .int .u64 (cell lst 0), .int .u64 (cell lst 1), .int .u64 (cell lst 2), .int .u64 (cell lst 3), .int .u64 (cell lst 4), .int .u64 (cell lst 5)] 35)) W.heap.size lst.length (cell lst) := heap_alloc_new _ _
    have hk1 := KeepC.of_below (H := H) hal
    have hc1 := hcap.below hal
    have hlt := hcap.lt
    have HC := Lib.hid hc
    obtain ⟨d0, d1, d2, d3, d4, d5, d6⟩ := hsp.cells
    have n0 := cell_of hc1.n0 (j := 0) rfl
    have HSP := Lib.hid hsp
    have HK1 := Lib.hid hk1
    have HC1 := Lib.hid hc1
    clear hal hsp hk1 hc1 hcap hc hdl
    go_enter Tryd.func8, Tryd.ntmps8
    go_wp2_with fail
    refine (isSpace_any lst _ HC.out HC1.out.tab).mono ?_
    rintro e w2 ⟨rfl, hb2⟩
    have HC2 := Lib.hid (HC1.out.below hb2)
    have HK2 := Lib.hid (HK1.out.trans (KeepC.of_below hb2))
    have HSP2 := Lib.hid (HSP.out.below hb2)
    clear d0 d1 d2 d3 d4 d5 d6 n0 hb2 HC1 HK1 HSP
    generalize hs : spaceB lst = b at *
    clear hs
    cases b
    · go_wp2_with fail
      (try simp only [Exit.inBlock, Exit.then])
      refine bodyPost_ret (results_none rfl _ _ _) rfl ?_
      exact ⟨rfl, by rw [HLA.out, HLB.out]; simpa using HC2.out, HK2.out⟩
    · have a0 := cell_of HC2.out.a0 (j := 0) rfl
      have f0 := free_of HC2.out.a0 0
      have hA1 : A ≤ 70000 := by omega
      have e1 : ((A : Int) + 1) = ((A + 1 : Nat) : Int) := by push_cast; rfl
      have HC3 : Hid (CntC lst.length H (A + 1) B (w2.setCell ⟨H + 1, 0, none⟩ (.int .i64 ((A : Int) + 1)))) := Lib.hid (by rw [e1]; exact HC2.out.setA)
      have HK3 : Hid (KeepC H W (w2.setCell ⟨H + 1, 0, none⟩ (.int .i64 ((A : Int) + 1)))) := Lib.hid (HK2.out.trans (KeepC.setA _ _ _))
      have HSP3 : Hid (SpF (w2.setCell ⟨H + 1, 0, none⟩ (.int .i64 ((A : Int) + 1))) W.heap.size lst.length (cell lst)) := Lib.hid (HSP2.out.other (by omega))
      clear HC2 HK2 HSP2 e1
      obtain ⟨d0, d1, d2, d3, d4, d5, d6⟩ := HSP3.out.cells
      go_wp2_with fail
      generalize hW3 : w2.setCell _ _ = w3 at *
      clear hW3
      refine (isPlain_any lst _ HC.out).mono ?_
      rintro e w4 ⟨rfl, hb2⟩
      have HC4 := Lib.hid (HC3.out.below hb2)
      have HK4 := Lib.hid (HK3.out.trans (KeepC.of_below hb2))
      clear d0 d1 d2 d3 d4 d5 d6 hb2 HC3 HK3 HSP3 a0 f0
      generalize hs : plainB lst = b at *
      clear hs
      cases b
      · go_wp2_with fail
        (try simp only [Exit.inBlock, Exit.then])
        refine bodyPost_ret (results_none rfl _ _ _) rfl ?_
        exact ⟨rfl, by rw [HLA.out, HLB.out]; simpa using HC4.out, HK4.out⟩
      · have b0 := cell_of HC4.out.b0 (j := 0) rfl
        have f0 := free_of HC4.out.b0 0
        have hB1 : B ≤ 70000 := by omega
        have e1 : ((B : Int) + 1) = ((B + 1 : Nat) : Int) := by push_cast; rfl
        have HC5 : Hid (CntC lst.length H (A + 1) (B + 1) (w4.setCell ⟨H + 2, 0, none⟩ (.int .i64 ((B : Int) + 1)))) := Lib.hid (by rw [e1]; exact HC4.out.setB)
        have HK5 : Hid (KeepC H W (w4.setCell ⟨H + 2, 0, none⟩ (.int .i64 ((B : Int) + 1)))) := Lib.hid (HK4.out.trans (KeepC.setB _ _ _))
        clear HC4 HK4 e1
        go_wp2_with fail
        (try simp only [Exit.inBlock, Exit.then])
        refine bodyPost_ret (results_none rfl _ _ _) rfl ?_
        exact ⟨rfl, by rw [HLA.out, HLB.out]; simpa using HC5.out, HK5.out⟩
  | succ d ih =>
    intro lst W A B hdl hsm hA hB hcap
    have hal := (Below.refl W.heap.size W).alloc (Nat.le_refl _) (.cells #[.int .i64 n, .int .u64 (cell lst 0), .int .u64 (cell lst 1), .int .u64 (cell lst 2), .int .u64 (cell lst 3), .int .u64 (cell lst 4), .int .u64 (cell lst 5)] 35)
    have hsp : SpF (W.alloc (.cells #[.int .i64 n, .int .u64 (cell lst 0), .int .u64 (cell lst 1), .int .u64 (cell lst 2), .int .u64 (cell lst 3), .int .u64 (cell lst 4), .int .u64 (cell lst 5)] 35)) W.heap.size n (cell lst) := heap_alloc_new _ _
    have hk1 := KeepC.of_below (H := H) hal
    have hc1 := hcap.below hal
    have hlt := hcap.lt
    have hne : ((lst.length : Int) == (n : Int)) = false := by simp; omega
    have hN64 : N ≤ 64 := by rw [← hN]; exact Nat.pow_le_pow_right (n := 2) (by omega) hn6
    have hN1 : IntKind.u64.wrap ((allN n : Nat) + 1 : Int) = (N : Int) := by
      have h1 : allN n + 1 = N := by unfold allN; have := Nat.two_pow_pos n; omega
      rw [show ((allN n : Nat) + 1 : Int) = ((allN n + 1 : Nat) : Int) by push_cast; rfl, h1]
      exact wrapU N (by omega)
    have hlv1 := leaves_succ spaceB N d lst
    have hlv2 := leaves_succ spacePlain N d lst
    have HSM := Lib.hid hsm
    obtain ⟨d0, d1, d2, d3, d4, d5, d6⟩ := hsp.cells
    have n0 := cell_of hc1.n0 (j := 0) rfl
    have HSP := Lib.hid hsp
    have HK1 := Lib.hid hk1
    have HC1 := Lib.hid hc1
    have HA := Lib.hid hA
    have HB := Lib.hid hB
    rw [hlv1] at HA
    rw [hlv2] at HB
    rw [hlv1, hlv2]
    have IH := Lib.hid ih
    clear hal hsp hk1 hc1 hcap hsm hN hlv1 hlv2 hA hB ih
    go_enter Tryd.func8, Tryd.ntmps8
    go_wp2_with fail
    refine (all_anyF n _ _ hn6).mono ?_
    rintro e w2 ⟨rfl, hb2⟩
    have HC2 := Lib.hid (HC1.out.below hb2)
    have HK2 := Lib.hid (HK1.out.trans (KeepC.of_below hb2))
    have HSP2 := Lib.hid (HSP.out.below hb2)
    clear d0 d1 d2 d3 d4 d5 d6 n0 hb2 HC1 HK1 HSP hne
    go_wp2_with fail
    go_loopw [8, 23] (fun _ i wr => ∃ (k : Nat) (f : Nat → Nat), k ≤ N ∧ i = .int .u64 k ∧ SpF wr W.heap.size n f ∧ (∀ j, j ≠ lst.length → f j = cell lst j) ∧ CntC n H (A + leavesTo spaceB N d lst k) (B + leavesTo spacePlain N d lst k) wr ∧ KeepC H W wr) (fun _ i _ => N - (intOf i).toNat)
    case atStart => exact ⟨0, _, by omega, rfl, HSP2.out, fun _ _ => rfl, HC2.out, HK2.out⟩
    case round =>
      clear HSP2 HC2 HK2
      obtain ⟨k, f, hk, rfl, hsr, hf, hcr, hkr⟩ := hrel
      have HSR := Lib.hid hsr
      have HF := Lib.hid hf
      have HCR := Lib.hid hcr
      have HKR := Lib.hid hkr
      clear hsr hf hcr hkr
      by_cases hlt2 : k < N
      · have k1 : (k : Int) < (N : Int) := by omega
        have hw1 : IntKind.u64.wrap ((k : Int) + 1) = ((k + 1 : Nat) : Int) := by
          rw [show ((k : Int) + 1) = ((k + 1 : Nat) : Int) by push_cast; rfl]
          exact wrapU (k + 1) (by omega)
        rcases hb : k.testBit lst.length with _ | _
        · have HB0 := Lib.hid hb
          clear hb
          go_wp2_with fail
          refine (has_any k lst.length _ (by omega) (by omega)).mono ?_
          rintro e w3 ⟨rfl, rfl⟩
          rw [HB0.out]
          go_wp2_with fail
          go_roundw
          case rel => exact ⟨k + 1, f, by omega, by go_num, HSR.out, HF.out, by rw [leavesTo_succ, leavesTo_succ, HB0.out]; simpa using HCR.out, HKR.out⟩
          case measure => simp [intOf]; omega
        · have HB0 := Lib.hid hb
          clear hb
          have p6 : lst.length < 6 := by omega
          have p0 : (0 : Int) ≤ (lst.length : Int) := by omega
          have p7 : (lst.length : Int) < 6 := by omega
          have cp := HSR.out.cell p6
          have fp := HSR.out.free (1 + lst.length)
          have HSP3 : Hid (SpF (wr.setCell ⟨W.heap.size, 1 + lst.length, none⟩ (.int .u64 k)) W.heap.size n (cell (lst ++ [k]))) := Lib.hid (HSR.out.set p6 (fun j hj => by
            rw [cell_snoc]
            split
            · rfl
            · exact (HF.out j ‹_›).symm))
          have HC3 : Hid (CntC n H (A + leavesTo spaceB N d lst k) (B + leavesTo spacePlain N d lst k) (wr.setCell ⟨W.heap.size, 1 + lst.length, none⟩ (.int .u64 k))) := Lib.hid (HCR.out.other hlt _ _)
          have HK3 : Hid (KeepC H W (wr.setCell ⟨W.heap.size, 1 + lst.length, none⟩ (.int .u64 k))) := Lib.hid (HKR.out.other _ _)
          have hs1 : leavesTo spaceB N d lst (k + 1) = leavesTo spaceB N d lst k + leaves spaceB N d (lst ++ [k]) := by rw [leavesTo_succ, if_pos HB0.out]
          have hs2 : leavesTo spacePlain N d lst (k + 1) = leavesTo spacePlain N d lst k + leaves spacePlain N d (lst ++ [k]) := by rw [leavesTo_succ, if_pos HB0.out]
          have hle1 := leavesTo_le spaceB N d lst (N - (k + 1)) (k + 1)
          have hle2 := leavesTo_le spacePlain N d lst (N - (k + 1)) (k + 1)
          rw [show k + 1 + (N - (k + 1)) = N by omega, hs1] at hle1
          rw [show k + 1 + (N - (k + 1)) = N by omega, hs2] at hle2
          have HIH := Lib.hid (IH.out (lst ++ [k]) (wr.setCell ⟨W.heap.size, 1 + lst.length, none⟩ (.int .u64 k)) (A + leavesTo spaceB N d lst k) (B + leavesTo spacePlain N d lst k) (by simp; omega) (fun x hx => by
            rcases List.mem_append.1 hx with hx | hx
            · exact HSM.out x hx
            · rw [List.mem_singleton.1 hx]; exact hlt2) (by have := HA.out; omega) (by have := HB.out; omega) HC3.out)
          have hcast : (((lst ++ [k]).length : Nat) : Int) = (lst.length : Int) + 1 := by simp
          rw [hcast] at HIH
          have HS1 := Lib.hid hs1
          have HS2 := Lib.hid hs2
          obtain ⟨d0, d1, d2, d3, d4, d5, d6⟩ := HSP3.out.cells
          have e0 := cell_of HC3.out.e0 (j := 0) rfl
          clear hs1 hs2 hle1 hle2 hcast IH HA HB HSM
          go_wp2_with fail
          refine (has_any k lst.length _ (by omega) (by omega)).mono ?_
          rintro e w3 ⟨rfl, rfl⟩
          rw [HB0.out]
          go_wp2_with fail
          refine HIH.out.mono ?_
          rintro e w4 ⟨rfl, hc4, hk4⟩
          have HC4 := Lib.hid hc4
          have HK4 := Lib.hid (HK3.out.trans hk4)
          have HSP4 := Lib.hid (hk4.sp HSP3.out hlt)
          clear d0 d1 d2 d3 d4 d5 d6 e0 hc4 hk4 HC3 HK3 HSP3 HIH cp fp
          go_wp2_with fail
          go_roundw
          case rel => exact ⟨k + 1, _, by omega, by go_num, HSP4.out, fun j hj => by rw [cell_snoc, if_neg hj], by rw [HS1.out, HS2.out, ← Nat.add_assoc, ← Nat.add_assoc]; exact HC4.out, HK4.out⟩
          case measure => simp [intOf]; omega
      · obtain rfl : k = N := by omega
        have k1 : ¬ (k : Int) < (k : Int) := by omega
        go_wp2_with fail
        go_end0
        exact ⟨rfl, HCR.out, HKR.out⟩
end Go.Proofs.YtmagkcioplcidabDoor

/- ply's reference: Codes, IsSpace, Space, Plain. -/
set_option linter.unusedVariables false
set_option linter.unusedSimpArgs false
namespace Go.Proofs.YtmagkcioplcidabDoor
open Go.RowKit Go.Shelf

set_option maxRecDepth 100000 in
set_option maxHeartbeats 3200000 in
theorem refIsSpace_any (v : Value) (cs : List Nat) (w : World) (hr : Reads w v (ofNats cs)) (hc : Codes cs) :
    Calls Tryd.prog 19 #[v] w fun e w' => e = .returned (.bool (spaceB cs)) ∧ Below w.heap.size w w' := by
  have hr0 := hr
  obtain ⟨a, cap, rfl, h1, h2, hcell⟩ := hr.open
  have hl6 := hc.2.1
  have HC := Lib.hid (cell_64 hc)
  have hlen := ofNats_len cs
  rw [hlen] at h1 hcell ⊢
  obtain ⟨n, hn⟩ : ∃ n, cs.length = n := ⟨_, rfl⟩
  rw [hn] at h1 hcell hl6 ⊢
  have HN := Lib.hid hn
  clear h2 hr hr0 hc hlen hn
  go_enter Tryd.func19, Tryd.ntmps19
  go_wp2_with fail
  go_loopw [3] (fun i wr => ∃ k m : Nat, k ≤ n ∧ i = .int .i64 k ∧ (∀ p, p < k → (cell cs p).testBit p = true ∧ ∀ q, q < n → (cell cs p).testBit q = true → subB (cell cs q) (cell cs p) = true) ∧ wr = w.drewN m) (fun i _ => n - (intOf i).toNat)
  case atStart => exact ⟨0, 0, by omega, rfl, fun p hp => by omega, rfl⟩
  case round =>
    obtain ⟨k, m, hk, rfl, hdone, rfl⟩ := hrel
    have HD := Lib.hid hdone
    clear hdone
    by_cases hlt : k < n
    · have hcell0 := hcell
      obtain ⟨b, off, rfl, hb, hck⟩ := hcell k hlt
      rw [gi_nats] at hck
      have hc64 := HC.out k
      have k0 : (0 : Int) ≤ (k : Int) := by omega
      have k1 : (k : Int) < (n : Int) := by omega
      have HCELL := Lib.hid hcell
      clear hcell hcell0
      rcases hbit : (cell cs k).testBit k with _ | _
      · have HB := Lib.hid hbit
        clear hbit
        go_wp2_with fail
        refine (refHas_any (cell cs k) k _ hc64 (by omega)).mono ?_
        rintro e w' ⟨rfl, rfl⟩
        rw [HB.out]
        go_wp2_with fail
        go_ret
        refine ⟨ret_bool ?_, below_drewN _ _⟩
        symm
        rcases ho : spaceB cs with _ | _
        · rfl
        · have := (space_iff.1 ho k (by rw [HN.out]; exact hlt)).1
          rw [HB.out] at this; cases this
      · have HB := Lib.hid hbit
        clear hbit
        go_wp2_with fail
        refine (refHas_any (cell cs k) k _ hc64 (by omega)).mono ?_
        rintro e w' ⟨rfl, rfl⟩
        rw [HB.out]
        go_wp2_with fail
        go_loopw [4] (fun i wr => ∃ j m : Nat, j ≤ n ∧ i = .int .i64 j ∧ (∀ q, q < j → (cell cs k).testBit q = true → subB (cell cs q) (cell cs k) = true) ∧ wr = w.drewN m) (fun i _ => n - (intOf i).toNat)
        case atStart => exact ⟨0, _, by omega, rfl, fun p hp => by omega, rfl⟩
        case round =>
          obtain ⟨j, m2, hj, rfl, hd2, rfl⟩ := hrel
          have HD2 := Lib.hid hd2
          clear hd2
          by_cases hjn : j < n
          · obtain ⟨b2, off2, he, hb2, hcj⟩ := HCELL.out j hjn
            cases he
            rw [gi_nats] at hcj
            have hj64 := HC.out j
            have j0 : (0 : Int) ≤ (j : Int) := by omega
            have j1 : (j : Int) < (n : Int) := by omega
            have HA : ∀ b, (cell cs k).testBit j = b → Hid (∀ w, Calls Tryd.prog 31 #[.int .i64 (cell cs k), .int .i64 j] w fun e w' => e = .returned (.bool b) ∧ w = w') := fun b h => Lib.hid (fun w => by have := refHas_any (cell cs k) j w hc64 (by omega); rwa [h] at this)
            have HS : ∀ b, subB (cell cs j) (cell cs k) = b → Hid (∀ w, Calls Tryd.prog 32 #[.int .i64 (cell cs j), .int .i64 (cell cs k)] w fun e w' => e = .returned (.bool b) ∧ w = w') := fun b h => Lib.hid (fun w => by have := refWithin_any (cell cs j) (cell cs k) w hj64 hc64; rwa [h] at this)
            rcases hb1 : (cell cs k).testBit j with _ | _
            · replace HA := HA _ hb1
              have HB1 := Lib.hid hb1
              clear HS hb1
              go_wp2_with fail
              refine wp_region_quiet_lit (by kernel_rfl) (by kernel_rfl) ?_
              repeat (go_big_quiet_step (fail))
              quiet_step ((go_at_call 31; exact (HA.out _).mono (fun e w' h => ⟨h.1, _, h.2.symm⟩)))
              repeat (go_big_quiet_step (fail))
              refine wpQuiet_nil ?_
              intro _ hw'
              obtain ⟨nq, hw''⟩ := hw'
              subst hw''
              go_wp2_with fail
              go_roundw
              case rel => exact ⟨j + 1, _, by omega, by go_num, fun q hq hqb => by
                by_cases e : q = j
                · subst e; rw [HB1.out] at hqb; cases hqb
                · exact HD2.out q (by omega) hqb, by first | rfl | exact World.drewN_drewN ..⟩
              case measure => simp [intOf]; omega
            · replace HA := HA _ hb1
              have HB1 := Lib.hid hb1
              clear hb1
              rcases hs1 : subB (cell cs j) (cell cs k) with _ | _
              · replace HS := HS _ hs1
                have HS1 := Lib.hid hs1
                clear hs1
                go_wp2_with fail
                refine wp_region_quiet_lit (by kernel_rfl) (by kernel_rfl) ?_
                repeat (go_big_quiet_step (fail))
                quiet_step ((go_at_call 31; exact (HA.out _).mono (fun e w' h => ⟨h.1, _, h.2.symm⟩)))
                repeat (go_big_quiet_step (fail))
                quiet_step ((go_at_call 32; exact (HS.out _).mono (fun e w' h => ⟨h.1, _, h.2.symm⟩)))
                repeat (go_big_quiet_step (fail))
                refine wpQuiet_nil ?_
                intro _ hw'
                obtain ⟨nq, hw''⟩ := hw'
                subst hw''
                go_wp2_with fail
                go_ret
                refine ⟨ret_bool ?_, by first | exact below_drewN _ _ | exact (below_drewN _ _).trans ((below_drewN _ _).mono (below_drewN w _).size)⟩
                symm
                rcases ho : spaceB cs with _ | _
                · rfl
                · have := (space_iff.1 ho k (by rw [HN.out]; exact hlt)).2 j (by rw [HN.out]; exact hjn) HB1.out
                  rw [HS1.out] at this; cases this
              · replace HS := HS _ hs1
                have HS1 := Lib.hid hs1
                clear hs1
                go_wp2_with fail
                refine wp_region_quiet_lit (by kernel_rfl) (by kernel_rfl) ?_
                repeat (go_big_quiet_step (fail))
                quiet_step ((go_at_call 31; exact (HA.out _).mono (fun e w' h => ⟨h.1, _, h.2.symm⟩)))
                repeat (go_big_quiet_step (fail))
                quiet_step ((go_at_call 32; exact (HS.out _).mono (fun e w' h => ⟨h.1, _, h.2.symm⟩)))
                repeat (go_big_quiet_step (fail))
                refine wpQuiet_nil ?_
                intro _ hw'
                obtain ⟨nq, hw''⟩ := hw'
                subst hw''
                go_wp2_with fail
                go_roundw
                case rel => exact ⟨j + 1, _, by omega, by go_num, fun q hq hqb => by
                  by_cases e : q = j
                  · subst e; exact HS1.out
                  · exact HD2.out q (by omega) hqb, by first | rfl | exact World.drewN_drewN ..⟩
                case measure => simp [intOf]; omega
          · have hjn2 : j = n := by omega
            have HJ := Lib.hid hjn2
            clear hjn2
            go_wp2_with fail
            go_roundw
            case rel => exact ⟨k + 1, _, by omega, by go_num, fun p hp => by
              by_cases e : p = k
              · subst e; exact ⟨HB.out, fun q hq hqb => HD2.out q (by rw [HJ.out]; exact hq) hqb⟩
              · exact HD.out p (by omega), rfl⟩
            case measure => simp [intOf]; omega
    · have hkn : k = n := by omega
      have HK := Lib.hid hkn
      clear hkn hcell
      go_wp2_with fail
      go_ret
      refine ⟨ret_bool ?_, below_drewN _ _⟩
      symm
      exact space_iff.2 fun p hp => by
        rw [HN.out] at hp
        obtain ⟨h1, h2⟩ := HD.out p (by omega)
        exact ⟨h1, fun q hq hb => h2 q (by rw [← HN.out]; exact hq) hb⟩
set_option maxRecDepth 100000 in
set_option maxHeartbeats 3200000 in
theorem refPlain_any (v : Value) (cs : List Nat) (w : World) (hr : Reads w v (ofNats cs)) (hc : Codes cs) :
    Calls Tryd.prog 20 #[v] w fun e w' => e = .returned (.bool (plainB cs)) ∧ Below w.heap.size w w' := by
  have hr0 := hr
  obtain ⟨a, cap, rfl, h1, h2, hcell⟩ := hr.open
  have hl6 := hc.2.1
  have hlen := ofNats_len cs
  rw [hlen] at h1 hcell ⊢
  obtain ⟨n, hn⟩ : ∃ n, cs.length = n := ⟨_, rfl⟩
  rw [hn] at h1 hcell hl6 ⊢
  have HN := Lib.hid hn
  clear h2 hr hr0 hc hlen hn
  go_enter Tryd.func20, Tryd.ntmps20
  go_wp2_with fail
  go_loopw [3] (fun i wr => ∃ k m : Nat, k ≤ n ∧ i = .int .i64 k ∧ (∀ p q, p < k → q < p → cell cs q ≠ cell cs p) ∧ wr = w.drewN m) (fun i _ => n - (intOf i).toNat)
  case atStart => exact ⟨0, 0, by omega, rfl, fun p q hp => by omega, rfl⟩
  case round =>
    obtain ⟨k, m, hk, rfl, hdone, rfl⟩ := hrel
    have HD := Lib.hid hdone
    clear hdone
    by_cases hlt : k < n
    · have hck := hcell k hlt
      obtain ⟨b, off, rfl, hb, hck⟩ := hck
      rw [gi_nats] at hck
      have k0 : (0 : Int) ≤ (k : Int) := by omega
      have k1 : (k : Int) < (n : Int) := by omega
      have HCELL := Lib.hid hcell
      clear hcell
      go_wp2_with fail
      go_loopw [4] (fun i wr => ∃ j m : Nat, j ≤ k ∧ i = .int .i64 j ∧ (∀ q, q < j → cell cs q ≠ cell cs k) ∧ wr = w.drewN m) (fun i _ => k - (intOf i).toNat)
      case atStart => exact ⟨0, _, by omega, rfl, fun p hp => by omega, rfl⟩
      case round =>
        obtain ⟨j, m2, hj, rfl, hd2, rfl⟩ := hrel
        have HD2 := Lib.hid hd2
        clear hd2
        by_cases hjn : j < k
        · obtain ⟨b2, off2, he, hb2, hcj⟩ := HCELL.out j (by omega)
          cases he
          rw [gi_nats] at hcj
          have j0 : (0 : Int) ≤ (j : Int) := by omega
          have j1 : (j : Int) < (n : Int) := by omega
          by_cases hxy : cell cs j = cell cs k
          · have he' : ((cell cs j : Int) == (cell cs k : Int)) = true := by simp [hxy]
            have HX := Lib.hid hxy
            clear hxy
            go_wp2_with fail
            refine wp_region_quiet_lit (by kernel_rfl) (by kernel_rfl) ?_
            repeat (go_big_quiet_step (fail))
            refine wpQuiet_nil ?_
            intro _ hw'
            obtain ⟨nq, hw''⟩ := hw'
            subst hw''
            go_wp2_with fail
            go_ret
            refine ⟨ret_bool ?_, by first | exact below_drewN _ _ | exact (below_drewN _ _).trans ((below_drewN _ _).mono (below_drewN w _).size)⟩
            symm
            rcases ho : plainB cs with _ | _
            · rfl
            · exact absurd HX.out (plain_iff.1 ho k j (by rw [HN.out]; exact hlt) hjn)
          · have he' : ((cell cs j : Int) == (cell cs k : Int)) = false := by
              rw [beq_eq_false_iff_ne]; intro h; exact hxy (by exact_mod_cast h)
            have HX := Lib.hid hxy
            clear hxy
            go_wp2_with fail
            refine wp_region_quiet_lit (by kernel_rfl) (by kernel_rfl) ?_
            repeat (go_big_quiet_step (fail))
            refine wpQuiet_nil ?_
            intro _ hw'
            obtain ⟨nq, hw''⟩ := hw'
            subst hw''
            go_wp2_with fail
            go_roundw
            case rel => exact ⟨j + 1, _, by omega, by go_num, fun q hq => by
              by_cases e : q = j
              · subst e; exact HX.out
              · exact HD2.out q (by omega), by first | rfl | exact World.drewN_drewN ..⟩
            case measure => simp [intOf]; omega
        · have hjn2 : j = k := by omega
          have HJ := Lib.hid hjn2
          clear hjn2
          go_wp2_with fail
          go_roundw
          case rel => exact ⟨k + 1, _, by omega, by go_num, fun p q hp hq => by
            by_cases e : p = k
            · subst e; exact HD2.out q (by rw [HJ.out]; exact hq)
            · exact HD.out p q (by omega) hq, rfl⟩
          case measure => simp [intOf]; omega
    · have hkn : k = n := by omega
      have HK := Lib.hid hkn
      clear hkn hcell
      go_wp2_with fail
      go_ret
      refine ⟨ret_bool ?_, below_drewN _ _⟩
      symm
      exact plain_iff.2 fun p q hp hq => HD.out p q (by rw [HN.out] at hp; omega) hq
end Go.Proofs.YtmagkcioplcidabDoor

/- ply's reference: Turned. -/
set_option linter.unusedVariables false
set_option linter.unusedSimpArgs false
namespace Go.Proofs.YtmagkcioplcidabDoor
open Go.RowKit

theorem gather_add {P : Nat → Bool} {j : Nat} (h : P j = true) : gather P j + 2 ^ j = gather P (j + 1) := by
  show _ = gather P j ||| (if P j = true then 2 ^ j else 0)
  rw [if_pos h, Nat.or_comm]
  have := Nat.two_pow_add_eq_or_of_lt (gather_lt P j) 1
  rw [Nat.mul_one] at this
  rw [← this, Nat.add_comm]
theorem gather_skip {P : Nat → Bool} {j : Nat} (h : P j = false) : gather P (j + 1) = gather P j := by
  show gather P j ||| (if P j = true then 2 ^ j else 0) = _
  rw [h]; simp
theorem turned_take {cs : List Nat} {k : Nat} (hk : k < cs.length) : ofNats ((turnedN cs).take (k + 1)) = ofNats ((turnedN cs).take k) ++ [((gather (fun q => (cell cs q).testBit k) cs.length : Nat) : Int)] := by
  have hl := turned_len cs
  rw [List.take_succ_eq_append_getElem (by omega)]
  have h1 := turned_cell hk
  unfold cell at h1
  rw [List.getD_eq_getElem?_getD, List.getElem?_eq_getElem (by omega)] at h1
  unfold ofNats
  rw [List.map_append]
  congr 1
  simp only [List.map_cons, List.map_nil]
  congr 2

end Go.Proofs.YtmagkcioplcidabDoor

/- The helpers mod and prime of the statements. -/
set_option linter.unusedVariables false
set_option linter.unusedSimpArgs false
namespace Go.Proofs.YtmagkcioplcidabDoor
open Go.RowKit

def modN (x n : Int) : Int := (x % 18446744073709551616) % n
theorem modN_rng (x : Int) {n : Int} (hn : 1 ≤ n) : 0 ≤ modN x n ∧ modN x n < n := by
  unfold modN
  exact ⟨Int.emod_nonneg _ (by omega), Int.emod_lt_of_pos _ (by omega)⟩

end Go.Proofs.YtmagkcioplcidabDoor

/- A set made from any int. -/
set_option linter.unusedVariables false
set_option linter.unusedSimpArgs false
namespace Go.Proofs.YtmagkcioplcidabDoor
open Go.RowKit

/-- the cells of a slice that is read, by its value -/
theorem Reads.at {w : World} {a : Option Addr} {n cap : Nat} {cs : List Nat} (h : Reads w (.slice a n cap) (ofNats cs)) : n = cs.length ∧ ∀ k, k < cs.length → ∃ b off, a = some ⟨b, off, none⟩ ∧ b < w.heap.size ∧ w.cell? ⟨b, off + k, none⟩ = some (.int .i64 (cell cs k)) := by
  obtain ⟨a', cap', he, _, _, hc⟩ := h.open
  have hl := ofNats_len cs
  injection he with h1 h2 h3
  subst h1
  refine ⟨by omega, fun k hk => ?_⟩
  have := hc k (by omega)
  rwa [gi_nats] at this
end Go.Proofs.YtmagkcioplcidabDoor

/- ply's reference: IsSmooth, Smooth. -/
set_option linter.unusedVariables false
set_option linter.unusedSimpArgs false
namespace Go.Proofs.YtmagkcioplcidabDoor
open Go.RowKit Go.Shelf

theorem wmul {X m Y : Nat} (h : X * m = Y) (hY : Y ≤ 46656) : wrap64 ((X : Int) * (m : Int)) = (Y : Int) := by
  have e : (X : Int) * (m : Int) = ((X * m : Nat) : Int) := by push_cast; rfl
  rw [e, h]; unfold wrap64; omega

end Go.Proofs.YtmagkcioplcidabDoor

/- ply: Count, and the reference's. -/
set_option linter.unusedVariables false
set_option linter.unusedSimpArgs false
namespace Go.Proofs.YtmagkcioplcidabDoor
open Go.RowKit Go.Shelf

theorem few_spaces {n : Nat} (h4 : n ≤ 4) : (2 ^ n) ^ n ≤ 65536 :=
  Nat.le_trans (Nat.pow_le_pow_left (Nat.pow_le_pow_right (n := 2) (by omega) h4) n) (Nat.le_trans (Nat.pow_le_pow_right (by omega) h4) (by decide))
theorem leaves_few {n : Nat} (h4 : n ≤ 4) : leaves spaceB (2 ^ n) n [] ≤ 65536 ∧ leaves spacePlain (2 ^ n) n [] ≤ 65536 := by
  rw [leaves_space (Nat.two_pow_pos n), leaves_plain (Nat.two_pow_pos n)]
  exact ⟨Nat.le_trans (cnt_le _ _) (few_spaces h4), Nat.le_trans (cnt_le _ _) (few_spaces h4)⟩
set_option maxRecDepth 100000 in
set_option maxHeartbeats 3200000 in
theorem Count_yes (n : Nat) (w : World) (h1 : 1 ≤ n) (h4 : n ≤ 4) (hT : Tab w) :
    Calls Tryd.prog 4 #[.int .i64 n] w fun e w' => e = .returned (.tuple #[.int .i64 (leaves spaceB (2 ^ n) n [] : Nat), .int .i64 (leaves spacePlain (2 ^ n) n [] : Nat), .int .i64 0]) ∧ Below w.heap.size w w' := by
  have hw : withinB (n : Int) 1 4 = true := withinB_iff.2 ⟨by omega, by omega⟩
  have hl := leaves_few h4
  have HL := Lib.hid hl
  clear hl
  obtain ⟨N, hN⟩ : ∃ N, 2 ^ n = N := ⟨_, rfl⟩
  rw [hN] at HL ⊢
  have HN := Lib.hid hN
  clear hN
  go_enter Tryd.func4, Tryd.ntmps4
  go_wp2_with fail
  refine (within_any _ _ _ _).mono ?_
  rintro e w1 ⟨rfl, rfl⟩
  rw [hw]
  go_wp2_with fail
  have hbW : Below w.heap.size w ((((w.alloc (.cells #[.int .i64 n] 3)).alloc (.cells #[.int .i64 0] 3)).alloc (.cells #[.int .i64 0] 3)).alloc (.cells #[.func (.func 8) #[] #[.pointer (some ⟨w.heap.size, 0, none⟩), .pointer (some ⟨w.heap.size + 1, 0, none⟩), .pointer (some ⟨w.heap.size + 1 + 1, 0, none⟩), .pointer (some ⟨w.heap.size + 1 + 1 + 1, 0, none⟩)]] 30)) :=
    ((((Below.refl _ w).alloc (Nat.le_refl _) _).alloc (by simp) _).alloc (by simp <;> omega) _).alloc (by simp <;> omega) _
  have hcap : CntC n w.heap.size 0 0 ((((w.alloc (.cells #[.int .i64 n] 3)).alloc (.cells #[.int .i64 0] 3)).alloc (.cells #[.int .i64 0] 3)).alloc (.cells #[.func (.func 8) #[] #[.pointer (some ⟨w.heap.size, 0, none⟩), .pointer (some ⟨w.heap.size + 1, 0, none⟩), .pointer (some ⟨w.heap.size + 1 + 1, 0, none⟩), .pointer (some ⟨w.heap.size + 1 + 1 + 1, 0, none⟩)]] 30)) :=
    ⟨hT.below hbW, hT.lt, alloc_old (alloc_old (alloc_old (heap_alloc_new _ _))), alloc_old (alloc_old (heap_alloc_at _ _ _ (by simp))), alloc_old (heap_alloc_at _ _ _ (by simp)), heap_alloc_at _ _ _ (by simp)⟩
  have HB := Lib.hid hbW
  have HC := Lib.hid hcap
  clear hbW hcap
  generalize hW4 : World.alloc (World.alloc (World.alloc (World.alloc w _) _) _) _ = W4 at *
  clear hW4
  have hx := extend_cnt n N w.heap.size h1 (by omega) HN.out n [] W4 0 0 (by simp) (by simp) (by have := HL.out.1; omega) (by have := HL.out.2; omega) HC.out
  rw [Nat.zero_add, Nat.zero_add] at hx
  have HX := Lib.hid hx
  clear hx
  refine HX.out.mono ?_
  rintro e w5 ⟨rfl, hc5, hk5⟩
  have hb5 : Below w.heap.size w w5 := HB.out.trans (hk5.below (Nat.le_refl _) HB.out.size)
  have a0 := cell_of hc5.a0 (j := 0) rfl
  have b0 := cell_of hc5.b0 (j := 0) rfl
  generalize hLA : leaves spaceB N n [] = LA at *
  generalize hLB : leaves spacePlain N n [] = LB at *
  have HLA := Lib.hid hLA
  have HLB := Lib.hid hLB
  clear hLA hLB
  have HB5 := Lib.hid hb5
  clear hb5 hc5 hk5 HX HC HB HL hT
  go_wp2_with fail
  refine wp_region_quiet_lit (by kernel_rfl) (by kernel_rfl) ?_
  repeat (go_big_quiet_step (fail))
  refine wpQuiet_nil ?_
  intro _ hw'
  obtain ⟨nq, hw''⟩ := hw'
  subst hw''
  go_wp2_with fail
  go_ret3
  exact ⟨by rw [HLA.out, HLB.out]; rfl, HB5.out.trans ((below_drewN _ _).mono HB5.out.size)⟩
theorem Count_no (n : Int) (w : World) (h : withinB n 1 4 = false) :
    Calls Tryd.prog 4 #[.int .i64 n] w fun e w' => e = .returned (.tuple #[.int .i64 0, .int .i64 0, .int .i64 2]) ∧ Below w.heap.size w w' := by
  go_enter Tryd.func4, Tryd.ntmps4
  go_wp2_with fail
  refine (within_any _ _ _ _).mono ?_
  rintro e w1 ⟨rfl, rfl⟩
  rw [h]
  go_wp2_with fail
  go_ret3
  exact ⟨rfl, (Below.refl _ _).alloc (Nat.le_refl _) _⟩
theorem shl_step {X n N Y : Nat} (hN : 2 ^ n = N) (h : X * N = Y) (hY : Y ≤ 65536) : wrap64 ((X : Int) * (2 : Int) ^ n) = (Y : Int) := by
  have e : (X : Int) * (2 : Int) ^ n = ((X * N : Nat) : Int) := by rw [← hN]; push_cast; rfl
  rw [e, h]; unfold wrap64; omega
set_option maxRecDepth 100000 in
set_option maxHeartbeats 3200000 in
theorem refCount_any (n : Nat) (w : World) (h1 : 1 ≤ n) (h4 : n ≤ 4) :
    Calls Tryd.prog 6 #[.int .i64 n] w fun e w' => e = .returned (.tuple #[.int .i64 (leaves spaceB (2 ^ n) n [] : Nat), .int .i64 (leaves spacePlain (2 ^ n) n [] : Nat)]) ∧ Below w.heap.size w w' := by
  have HPW : Hid (∀ k, k ≤ n → (2 ^ n) ^ k ≤ 65536) := Lib.hid (fun k hk => Nat.le_trans (Nat.pow_le_pow_right (Nat.two_pow_pos n) hk) (few_spaces h4))
  have HCN := Lib.hid (leaves_space (n := n) (Nat.two_pow_pos n))
  have HCP := Lib.hid (leaves_plain (n := n) (Nat.two_pow_pos n))
  obtain ⟨N, hN⟩ : ∃ N, 2 ^ n = N := ⟨_, rfl⟩
  have hN0 : 0 < N := by rw [← hN]; exact Nat.two_pow_pos n
  have hN16 : N ≤ 16 := by rw [← hN]; exact Nat.pow_le_pow_right (n := 2) (by omega) h4
  have hshN : ((2 : Int) ^ n) = (N : Int) := by rw [← hN]; push_cast; rfl
  rw [hN] at HPW HCN HCP ⊢
  have HN := Lib.hid hN
  have HDG : Hid (∀ x i, ofNats (digits N (i + 1) x) = ofNats (digits N i x) ++ [((x / N ^ i % N : Nat) : Int)]) := Lib.hid (fun x i => by rw [digits_snoc]; simp [ofNats])
  have HCD : Hid (∀ x, Codes (digits N n x)) := Lib.hid (fun x => ⟨by rw [digits_len]; omega, by rw [digits_len]; omega, fun p => by
    rw [digits_len, hN]
    by_cases hp : p < n
    · exact cell_lt (digits_lt hN0 _ _) (by rw [digits_len]; exact hp)
    · rw [cell_far (by rw [digits_len]; omega)]; exact hN0⟩)
  clear hN
  go_enter Tryd.func6, Tryd.ntmps6
  go_wp2_with fail
  go_loop [4, 5] (fun x i => ∃ k : Nat, k ≤ n ∧ i = .int .i64 k ∧ x = .int .i64 (N ^ k : Nat)) (fun _ i => n - (intOf i).toNat)
  case atStart => exact ⟨0, by omega, rfl, rfl⟩
  case round =>
    obtain ⟨k, hk, rfl, rfl⟩ := hrel
    by_cases hlt : k < n
    · have hY := HPW.out (k + 1) (by omega)
      have hmul := shl_step (X := N ^ k) (Y := N ^ (k + 1)) HN.out (Nat.pow_succ _ _).symm hY
      have HMUL := Lib.hid hmul
      rw [hshN] at hmul
      have HMUL2 := Lib.hid hmul
      clear hmul hY
      generalize N ^ k = X at *
      go_wp2_with fail
      go_round
      case rel => exact ⟨k + 1, by omega, by go_num, by rw [HMUL2.out]⟩
      case measure => simp [intOf]; omega
    · have hkn : k = n := by omega
      have hT := HPW.out k (by omega)
      have HTT : Hid (N ^ n = N ^ k) := Lib.hid (by rw [hkn])
      generalize N ^ k = T at *
      clear hkn
      go_wp2_with fail
      go_loopw [6, 7, 8] (fun s p i wr => ∃ x : Nat, x ≤ T ∧ i = .int .i64 x ∧ s = .int .i64 (cntTo (fun x => spaceB (digits N n x)) x : Nat) ∧ p = .int .i64 (cntTo (fun x => spacePlain (digits N n x)) x : Nat) ∧ Below w.heap.size w wr) (fun _ _ i _ => T - (intOf i).toNat)
      case atStart => exact ⟨0, by omega, rfl, rfl, rfl, Below.refl _ _⟩
      case round =>
        clear hlt hk
        obtain ⟨x, hx, rfl, rfl, rfl, hb⟩ := hrel
        have HB := Lib.hid hb
        clear hb
        by_cases hlt : x < T
        · go_wp2_with fail
          go_loopw [9, 10, 11] (fun f i r wr' => ∃ i' : Nat, i' ≤ n ∧ i = .int .i64 i' ∧ r = .int .i64 (x / N ^ i' : Nat) ∧ Col wr wr' f (ofNats (digits N i' x))) (fun _ i _ _ => n - (intOf i).toNat)
          case atStart => exact ⟨0, by omega, rfl, by simp, Col.nil _⟩
          case round =>
            obtain ⟨k, hk, rfl, rfl, hcol⟩ := hrel
            have hdg := HDG.out x k
            have HCOL := Lib.hid hcol
            clear hcol
            by_cases hlt3 : k < n
            · have hdv : x / N ^ (k + 1) = x / N ^ k / N := by rw [Nat.div_div_eq_div_mul, Nat.pow_succ]
              have hxk : x / N ^ k ≤ x := Nat.div_le_self _ _
              generalize hR : x / N ^ k = R at *
              have q1 : (R : Int).tmod (N : Int) = ((R % N : Nat) : Int) := (Int.ofNat_tmod _ _).symm
              have q2 : (R : Int) / (N : Int) = ((R / N : Nat) : Int) := (Int.natCast_ediv _ _).symm
              have q3 : R % N < N := Nat.mod_lt _ hN0
              have q4 : R / N ≤ R := Nat.div_le_self _ _
              have HDV := Lib.hid hdv
              have HDGK := Lib.hid hdg
              have HLL : Hid ((ofNats (digits N k x)).length ≤ 1000000000) := Lib.hid (by rw [ofNats_len, digits_len]; omega)
              clear hdv hdg hR
              have hRT : R ≤ 65536 := by omega
              generalize R / N = D at *
              generalize R % N = M at *
              go_wp2_with (at_builtin; refine append_int rfl _ _ rfl HCOL.out rfl _ rfl HLL.out ?_; intro v' w' hcol' hne)
              go_roundw
              case rel => exact ⟨k + 1, by omega, by go_num, by rw [HDV.out], by rw [HDGK.out]; exact hcol'⟩
              case measure => simp [intOf]; omega
            · have hkn : k = n := by omega
              have HK : Hid (digits N k x = digits N n x) := Lib.hid (by rw [hkn])
              have hcol := HCOL.out
              rw [HK.out] at hcol
              have rf := hcol.reads
              have HB2 := Lib.hid (HB.out.trans (hcol.below.mono HB.out.size))
              have hcl := cnt_le (fun x => spaceB (digits N n x)) x
              have hcl2 := cnt_le (fun x => spacePlain (digits N n x)) x
              have HCS : Hid (cntTo (fun x => spaceB (digits N n x)) (x + 1) = cntTo (fun x => spaceB (digits N n x)) x + (if spaceB (digits N n x) = true then 1 else 0)) := Lib.hid rfl
              have HCS2 : Hid (cntTo (fun x => spacePlain (digits N n x)) (x + 1) = cntTo (fun x => spacePlain (digits N n x)) x + (if spacePlain (digits N n x) = true then 1 else 0)) := Lib.hid rfl
              have HSPP : Hid (spacePlain (digits N n x) = (spaceB (digits N n x) && plainB (digits N n x))) := Lib.hid rfl
              have HRF := Lib.hid rf
              have HCX := Lib.hid (HCD.out x)
              obtain ⟨fa, fc, rfl, _, _, _⟩ := rf.open
              clear hkn hcol rf HCOL hdg HK
              generalize cntTo (fun x => spaceB (digits N n x)) x = C at *
              generalize cntTo (fun x => spacePlain (digits N n x)) x = C2 at *
              go_wp2_with fail
              refine (refIsSpace_any _ _ _ HRF.out HCX.out).mono ?_
              rintro e w2 ⟨rfl, hbn⟩
              have HB3 := Lib.hid (below_to HB2.out HB2.out.size hbn)
              have HRF3 := Lib.hid (HRF.out.below hbn)
              clear hbn HB2 HRF
              generalize hs : spaceB (digits N n x) = b at *
              have HS := Lib.hid hs
              clear hs
              cases b
              · go_wp2_with fail
                go_roundw
                case rel => exact ⟨x + 1, by omega, by go_num, by rw [HCS.out]; simp, by rw [HCS2.out, HSPP.out]; simp, HB3.out⟩
                case measure => simp [intOf]; omega
              · go_wp2_with fail
                refine (refPlain_any _ _ _ HRF3.out HCX.out).mono ?_
                rintro e w3 ⟨rfl, hbn⟩
                have HB4 := Lib.hid (below_to HB3.out HB3.out.size hbn)
                clear hbn HB3 HRF3
                generalize hs : plainB (digits N n x) = b at *
                have HP := Lib.hid hs
                clear hs
                cases b
                · go_wp2_with fail
                  go_roundw
                  case rel => exact ⟨x + 1, by omega, by go_num, by rw [HCS.out]; simp, by rw [HCS2.out, HSPP.out]; simp, HB4.out⟩
                  case measure => simp [intOf]; omega
                · go_wp2_with fail
                  go_roundw
                  case rel => exact ⟨x + 1, by omega, by go_num, by rw [HCS.out]; simp, by rw [HCS2.out, HSPP.out]; simp, HB4.out⟩
                  case measure => simp [intOf]; omega
        · have hxT : x = T := by omega
          have HE : Hid (leaves spaceB N n [] = cntTo (fun x => spaceB (digits N n x)) x) := Lib.hid (by rw [HCN.out, HTT.out, hxT])
          have HE2 : Hid (leaves spacePlain N n [] = cntTo (fun x => spacePlain (digits N n x)) x) := Lib.hid (by rw [HCP.out, HTT.out, hxT])
          clear hxT
          generalize cntTo (fun x => spaceB (digits N n x)) x = C at *
          generalize cntTo (fun x => spacePlain (digits N n x)) x = C2 at *
          go_wp2_with fail
          go_ret2
          exact ⟨by rw [HE.out, HE2.out]; rfl, HB.out⟩
end Go.Proofs.YtmagkcioplcidabDoor

/- Loose points and the core: plain numbers. -/
set_option linter.unusedVariables false
set_option linter.unusedSimpArgs false
namespace Go.Proofs.YtmagkcioplcidabDoor

def looseAt (cs : List Nat) (s p q : Nat) : Bool := decide (diff (cell cs p &&& s) (2 ^ p) = cell cs q &&& s) || decide (diff (cell (turnedN cs) p &&& s) (2 ^ p) = cell (turnedN cs) q &&& s)
def looseB (cs : List Nat) (s p : Nat) : Bool := (bitsOf (diff s (2 ^ p))).any fun q => looseAt cs s p q
def firstLoose (cs : List Nat) (s : Nat) : Option Nat := (bitsOf s).find? fun p => looseB cs s p
def coreGo (cs : List Nat) : Nat → Nat → Nat
  | 0, s => s
  | k + 1, s => match firstLoose cs s with
    | none => s
    | some p => coreGo cs k (diff s (2 ^ p))
/-- the first points of those that are alike -/
def firstsTo (cs : List Nat) (k : Nat) : Nat := gather (fun p => (List.range p).all fun k => decide (cell cs k ≠ cell cs p)) k
def firstsN (cs : List Nat) : Nat := firstsTo cs cs.length
def coreOf (cs : List Nat) (s : Nat) : Nat := coreGo cs s s
def coreN (cs : List Nat) : Nat := coreOf cs (firstsN cs)

theorem firstLoose_bit {cs : List Nat} {s p : Nat} (hs : s < 64) (h : firstLoose cs s = some p) : s.testBit p = true ∧ looseB cs s p = true := by
  unfold firstLoose at h
  exact ⟨(bitsOf_mem hs).1 (List.mem_of_find?_eq_some h), by have := List.find?_some h; simpa using this⟩
theorem coreGo_more {cs : List Nat} : ∀ k s, s < 64 → s ≤ k → coreGo cs (k + 1) s = coreGo cs k s
  | 0, s, _, h => by
    obtain rfl : s = 0 := by omega
    rfl
  | k + 1, s, hs, h => by
    show (match firstLoose cs s with | none => s | some p => coreGo cs (k + 1) (diff s (2 ^ p))) = (match firstLoose cs s with | none => s | some p => coreGo cs k (diff s (2 ^ p)))
    rcases hf : firstLoose cs s with _ | p
    · rfl
    · have h1 := diff_lt_self (firstLoose_bit hs hf).1
      exact coreGo_more k _ (by omega) (by omega)
theorem coreGo_same {cs : List Nat} {s : Nat} (hs : s < 64) : ∀ d k, s ≤ k → coreGo cs (k + d) s = coreGo cs k s
  | 0, k, h => rfl
  | d + 1, k, h => by rw [← Nat.add_assoc, coreGo_more _ _ hs (by omega), coreGo_same hs d k h]
theorem core_none {cs : List Nat} {s : Nat} (h : firstLoose cs s = none) : coreOf cs s = s := by
  unfold coreOf
  cases s with
  | zero => rfl
  | succ k =>
    show (match firstLoose cs (k + 1) with | none => k + 1 | some p => coreGo cs k (diff (k + 1) (2 ^ p))) = k + 1
    rw [h]
theorem core_some {cs : List Nat} {s p : Nat} (hs : s < 64) (h : firstLoose cs s = some p) : coreOf cs s = coreOf cs (diff s (2 ^ p)) := by
  have h1 := diff_lt_self (firstLoose_bit hs h).1
  unfold coreOf
  obtain ⟨k, rfl⟩ : ∃ k, s = k + 1 := ⟨s - 1, by omega⟩
  show (match firstLoose cs (k + 1) with | none => k + 1 | some p => coreGo cs k (diff (k + 1) (2 ^ p))) = _
  rw [h]
  show coreGo cs k (diff (k + 1) (2 ^ p)) = _
  have := coreGo_same (cs := cs) (s := diff (k + 1) (2 ^ p)) (by omega) (k - diff (k + 1) (2 ^ p)) (diff (k + 1) (2 ^ p)) (Nat.le_refl _)
  rwa [show diff (k + 1) (2 ^ p) + (k - diff (k + 1) (2 ^ p)) = k by omega] at this
/-- what holds of a set and stays as a loose point goes, holds of the core -/
theorem core_ind {cs : List Nat} {P : Nat → Prop} (hstep : ∀ s p, s < 64 → P s → s.testBit p = true → looseB cs s p = true → P (diff s (2 ^ p))) :
    ∀ k s, s ≤ k → s < 64 → P s → P (coreOf cs s) ∧ firstLoose cs (coreOf cs s) = none ∧ coreOf cs s < 64
  | k, s, hk, hs, hP => by
    rcases hf : firstLoose cs s with _ | p
    · rw [core_none hf]; exact ⟨hP, hf, hs⟩
    · have hb := firstLoose_bit hs hf
      have h1 := diff_lt_self hb.1
      rw [core_some hs hf]
      cases k with
      | zero => omega
      | succ k => exact core_ind hstep k _ (by omega) (by omega) (hstep s p hs hP hb.1 hb.2)
theorem firsts_lt (cs : List Nat) (k : Nat) : firstsTo cs k < 2 ^ k := gather_lt _ _
end Go.Proofs.YtmagkcioplcidabDoor

/- ply: loose. -/
set_option linter.unusedVariables false
set_option linter.unusedSimpArgs false
namespace Go.Proofs.YtmagkcioplcidabDoor
open Go.RowKit Go.Shelf
attribute [local go_sem] Oper.semAt_some

theorem pow_int (p : Nat) : (((2 ^ p : Nat) : Int)) = (2 : Int) ^ p := by push_cast; rfl
theorem eqInt {a b : Nat} (h : a = b) : ((a : Int) == (b : Int)) = true := by simp [h]
theorem neInt {a b : Nat} (h : ¬ a = b) : ((a : Int) == (b : Int)) = false := by
  rw [beq_eq_false_iff_ne]; intro e; apply h; exact_mod_cast e
/-- the two tests of loose, one after the other -/
def loose1 (cs : List Nat) (s p q : Nat) : Bool := decide (diff (cell cs p &&& s) (2 ^ p) = cell cs q &&& s)
theorem looseAt_two (cs : List Nat) (s p q : Nat) : looseAt cs s p q = (loose1 cs s p q || loose1 (turnedN cs) s p q) := rfl

set_option maxRecDepth 100000 in
set_option maxHeartbeats 1600000 in
theorem loose_any (cs : List Nat) (s p : Nat) (w : World) (hc : Codes cs) (hs : s < 2 ^ cs.length) (hp : p < 6) (hT : Tab w) :
    Calls Tryd.prog 38 #[spV cs, .int .u64 s, .int .i64 p] w fun e w' => e = .returned (.bool (looseB cs s p)) ∧ Below w.heap.size w w' := by
  have hn6 := hc.2.1
  have h64 := lt64_of hn6 hs
  have hd64 : diff s (2 ^ p) < 64 := diff_lt (k := 6) h64
  have HC := Lib.hid (cell_64 hc)
  have HCT := Lib.hid (cell_64 (turned_codes hc))
  have HTL := turned_len cs
  have hCODES := Lib.hid hc
  have hsh := shl_num p hp
  have hpw := pow_lt64 hp
  clear hc hs
  refine (callsIn_wide (n := 20)).1 ?_
  refine callsIn_of_wp_marks Tryd.func38 rfl trivial ?_ rfl
  simp only [Tryd.ntmps38, List.size_toArray, List.length_cons, List.length_nil, Nat.reduceAdd, Nat.reduceSub, Array.replicate_succ, Array.replicate_zero, List.push_toArray, List.append_toArray, List.nil_append, List.cons_append]
  gi_wp2_with fail
  generalize hW0 : World.alloc (World.alloc (World.alloc (World.alloc w _) _) _) _ = W0
  have hsz : W0.heap.size = w.heap.size + 4 := by rw [← hW0]; simp
  have hbW : Below w.heap.size w W0 := by rw [← hW0]; exact ((((Below.refl _ _).alloc (Nat.le_refl _) _).alloc (by simp) _).alloc (by simp <;> omega) _).alloc (by simp <;> omega) _
  have hb0 : SpF W0 w.heap.size cs.length (cell cs) := by rw [← hW0]; exact alloc_old (alloc_old (alloc_old (heap_alloc_new _ _)))
  have hb1 : W0.heap[w.heap.size + 1]? = some (.cells #[.int .u64 s] 32) := by rw [← hW0]; exact alloc_old (alloc_old (heap_alloc_at _ _ _ (by simp)))
  have hb2 : W0.heap[w.heap.size + 2]? = some (.cells #[.int .i64 p] 3) := by rw [← hW0]; exact alloc_old (heap_alloc_at _ _ _ (by simp))
  have hb3 : W0.heap[w.heap.size + 3]? = some (.cells #[.bool false] 4) := by rw [← hW0]; exact heap_alloc_at _ _ _ (by simp)
  clear hW0
  refine ⟨trivial, (callsIn_wide.2 (turned_any cs _ hCODES.out)).mono ?_⟩
  rintro e w1 ⟨rfl, hbt⟩
  have s0 := hb0.below hbt
  have s1 := (hbt.block _ (heap_lt hb1)).trans hb1
  have s2 := (hbt.block _ (heap_lt hb2)).trans hb2
  have s3 := (hbt.block _ (heap_lt hb3)).trans hb3
  have hbw := below_to hbW hbW.size hbt
  have hszt := hbt.size
  clear hb0 hb1 hb2 hb3 hbW hbt
  gi_wp2_with fail
  have hal : Below w1.heap.size w1 (w1.alloc (.cells #[.int .i64 cs.length, .int .u64 (cell (turnedN cs) 0), .int .u64 (cell (turnedN cs) 1), .int .u64 (cell (turnedN cs) 2), .int .u64 (cell (turnedN cs) 3), .int .u64 (cell (turnedN cs) 4), .int .u64 (cell (turnedN cs) 5)] 35)) := (Below.refl _ _).alloc (Nat.le_refl _) _
  have s4 : SpF (w1.alloc (.cells #[.int .i64 cs.length, .int .u64 (cell (turnedN cs) 0), .int .u64 (cell (turnedN cs) 1), .int .u64 (cell (turnedN cs) 2), .int .u64 (cell (turnedN cs) 3), .int .u64 (cell (turnedN cs) 4), .int .u64 (cell (turnedN cs) 5)] 35)) w1.heap.size cs.length (cell (turnedN cs)) := heap_alloc_new _ _
  replace s0 := s0.below hal
  replace s1 := (hal.block _ (heap_lt s1)).trans s1
  replace s2 := (hal.block _ (heap_lt s2)).trans s2
  replace s3 := (hal.block _ (heap_lt s3)).trans s3
  replace hbw := below_to hbw hbw.size hal
  have hsz2 : (w1.alloc (.cells #[.int .i64 cs.length, .int .u64 (cell (turnedN cs) 0), .int .u64 (cell (turnedN cs) 1), .int .u64 (cell (turnedN cs) 2), .int .u64 (cell (turnedN cs) 3), .int .u64 (cell (turnedN cs) 4), .int .u64 (cell (turnedN cs) 5)] 35)).heap.size = w1.heap.size + 1 := by simp
  generalize hW2 : World.alloc w1 _ = W2 at *
  clear hW2 hal
  generalize hB1 : w1.heap.size = B1 at *
  clear hB1
  have HSZ : Hid (w.heap.size + 4 ≤ B1) := Lib.hid (by omega)
  have c1 := cell_of s1 (j := 0) rfl
  have c2 := cell_of s2 (j := 0) rfl
  have p0 : (0 : Int) ≤ (p : Int) := by omega
  have p6 : (p : Int) < 6 := by omega
  have hdf : bits .andNot .u64 (s : Int) ((2 : Int) ^ p) = ((diff s (2 ^ p) : Nat) : Int) := by
    have := u64_andNot s (2 ^ p) (by omega) (by omega)
    rwa [pow_int] at this
  have S0 := Lib.hid s0
  have S1 := Lib.hid s1
  have S2 := Lib.hid s2
  have S3 := Lib.hid s3
  have S4 := Lib.hid s4
  have HBW := Lib.hid hbw
  clear s0 s1 s2 s3 s4 hbw
  refine region_then 4 rfl rfl rfl (by kernel_rfl) (by kernel_rfl) (by kernel_rfl) (by kernel_rfl) (by kernel_rfl) (by kernel_rfl) ?_
  dsimp only [List.dropLast]
  repeat (gi_big_quiet_step (fail))
  refine wpQuietIn_nil ?_
  intro _ hw'
  obtain ⟨nq, hw''⟩ := hw'
  subst hw''
  have hszd := size_drewN W2 nq
  rw [hsz2] at hszd
  have r0 := S0.out.drewN nq
  have r1 := (heap_drewN W2 nq _).trans S1.out
  have r2 := (heap_drewN W2 nq _).trans S2.out
  have r3 := (heap_drewN W2 nq _).trans S3.out
  have r4 := S4.out.drewN nq
  have rb := below_to HBW.out HBW.out.size (below_drewN W2 nq)
  generalize hW3 : W2.drewN nq = W3 at *
  clear hW3 c1 c2 S0 S1 S2 S3 S4 HBW hsz2
  go_simp
  refine ⟨trivial, (callsIn_wide.2 (points_any (diff s (2 ^ p)) _)).mono ?_⟩
  rintro e w2 ⟨rfl, rfl⟩
  have hal : Below W3.heap.size W3 (W3.alloc (.cells #[.int .u64 (diff s (2 ^ p) : Nat)] 32)) := (Below.refl _ _).alloc (Nat.le_refl _) _
  have hBs := heap_alloc_new W3 (.cells #[.int .u64 (diff s (2 ^ p) : Nat)] 32)
  replace r0 := r0.below hal
  replace r1 := (hal.block _ (heap_lt r1)).trans r1
  replace r2 := (hal.block _ (heap_lt r2)).trans r2
  replace r3 := (hal.block _ (heap_lt r3)).trans r3
  replace r4 := r4.below hal
  replace rb := below_to rb rb.size hal
  have hsz4 : (W3.alloc (.cells #[.int .u64 (diff s (2 ^ p) : Nat)] 32)).heap.size = B1 + 2 := by simp [hszd]
  rw [hszd] at hBs ⊢
  generalize hW4 : World.alloc W3 _ = W4 at *
  clear hW4 hal hszd
  gi_wp2_with fail
  have hsz := HSZ.out
  refine range_pts (gf := 33) (Bs := B1 + 1) (s := diff s (2 ^ p)) rfl (enters_of Tryd.func33 (by kernel_rfl) rfl)
    (points_given (diff s (2 ^ p)) (B1 + 1) hd64 19 (by omega) W4 (by omega)) hBs rfl
    (fun pre W => SpF W w.heap.size cs.length (cell cs) ∧ W.heap[w.heap.size + 1]? = some (.cells #[.int .u64 s] 32) ∧ W.heap[w.heap.size + 2]? = some (.cells #[.int .i64 p] 3) ∧ W.heap[w.heap.size + 3]? = some (.cells #[.bool false] 4) ∧ SpF W B1 cs.length (cell (turnedN cs)) ∧ Below w.heap.size w W ∧ ∀ q ∈ pre, looseAt cs s p q = false)
    (fun c pre W => c = .ret ∧ W.heap[w.heap.size + 3]? = some (.cells #[.bool true] 4) ∧ Below w.heap.size w W ∧ looseB cs s p = true) ?a1 ?hI ?hIx ?hIB (fun pre W h => hT.below h.2.2.2.2.2.1) ⟨r0, r1, r2, r3, r4, rb, by simp⟩ ?assign ?body ?done ?stop
  case assign =>
    intro l x W K hK
    gi_wp2
    exact hK
  case hI =>
    rintro s W W' row ⟨h1, h2, h3, h4, h5, h6, h7⟩ hg hr
    exact ⟨own_block hg hr (by omega) h1, own_block hg hr (by omega) h2, own_block hg hr (by omega) h3, own_block hg hr (by omega) h4, own_block hg hr (by omega) h5, h6.grown hg h6.size (fun k e => by have := (hr k e).1; omega), h7⟩
  case hIx =>
    rintro c s W W' row ⟨h1, h2, h4, h5⟩ hg hr
    exact ⟨h1, own_block hg hr (by omega) h2, h4.grown hg h4.size (fun k e => by have := (hr k e).1; omega), h5⟩
  case hIB =>
    rintro s W v ⟨h1, h2, h3, h4, h5, h6, h7⟩
    exact ⟨h1.other (by omega), set_other h2 (by omega), set_other h3 (by omega), set_other h4 (by omega), h5.other (by omega), h6.setCell (p := ⟨B1 + 1, 0, none⟩) (by simp; omega) _, h7⟩
  case body =>
    rintro l pre x W hl ⟨h1, h2, h3, h4, h5, h6, h7⟩ hpx
    obtain ⟨hxb, hx6⟩ := pre_bit hd64 hpx
    have q1 := h1.cell hx6
    have q2 := h1.cell hp
    have q3 := h5.cell hx6
    have q4 := h5.cell hp
    have c1 := cell_of h2 (j := 0) rfl
    have c2 := cell_of h3 (j := 0) rfl
    have c3 := cell_of h4 (j := 0) rfl
    have f3 := free_of h4 0
    have a1 := HC.out x
    have a2 := HC.out p
    have a3 := HCT.out x
    have a4 := HCT.out p
    have e1 := u64_and (cell cs p) s (by omega) (by omega)
    have e2 := u64_and (cell cs x) s (by omega) (by omega)
    have e3 := u64_and (cell (turnedN cs) p) s (by omega) (by omega)
    have e4 := u64_and (cell (turnedN cs) x) s (by omega) (by omega)
    have n1 : cell cs p &&& s < 64 := and_lt (n := 64) a2
    have n2 : cell (turnedN cs) p &&& s < 64 := and_lt (n := 64) a4
    have e5 : bits .andNot .u64 ((cell cs p &&& s : Nat) : Int) ((2 : Int) ^ p) = ((diff (cell cs p &&& s) (2 ^ p) : Nat) : Int) := by
      have := u64_andNot (cell cs p &&& s) (2 ^ p) (by omega) (by omega)
      rwa [pow_int] at this
    have e6 : bits .andNot .u64 ((cell (turnedN cs) p &&& s : Nat) : Int) ((2 : Int) ^ p) = ((diff (cell (turnedN cs) p &&& s) (2 ^ p) : Nat) : Int) := by
      have := u64_andNot (cell (turnedN cs) p &&& s) (2 ^ p) (by omega) (by omega)
      rwa [pow_int] at this
    have x0 : (0 : Int) ≤ (x : Int) := by omega
    have x1 : (x : Int) < 6 := by omega
    have hyes : looseAt cs s p x = true → looseB cs s p = true := fun h => List.any_eq_true.2 ⟨x, hpx.subset (by simp), h⟩
    have HY := Lib.hid hyes
    have H1 := Lib.hid h1
    have H2 := Lib.hid h2
    have H3 := Lib.hid h3
    have H4 := Lib.hid h4
    have H5 := Lib.hid h5
    have H6 := Lib.hid h6
    have H7 := Lib.hid h7
    have HLA := Lib.hid (looseAt_two cs s p x)
    clear h1 h2 h3 h4 h5 h6 h7 hpx hxb hyes
    by_cases t1 : diff (cell cs p &&& s) (2 ^ p) = cell cs x &&& s
    · have g1 := eqInt t1
      have HT1 : Hid (looseB cs s p = true) := Lib.hid (HY.out (by rw [HLA.out]; unfold loose1; rw [decide_eq_true t1]; rfl))
      clear t1
      gi_wp2_with fail
      refine region_quiet_round (by kernel_rfl) (by kernel_rfl) (by kernel_rfl) ?_
      repeat (gi_big_quiet_step (fail))
      refine wpQuietIn_nil ?_
      intro _ hw'
      obtain ⟨nq, hw''⟩ := hw'
      subst hw''
      gi_wp2_with fail
      exact ⟨(keeps_drewN _ W _).trans (keeps_set _ _ _ _ _), SameAt.setCell (heap_drewN _ _ _) (by omega) _, rfl, set_same ((heap_drewN _ _ _).trans H4.out), (below_to H6.out H6.out.size (below_drewN _ _)).setCell (p := ⟨w.heap.size + 1 + 1 + 1, 0, none⟩) (by simp <;> omega) _, HT1.out⟩
    · have g1 := neInt t1
      have HN1 : Hid (loose1 cs s p x = false) := Lib.hid (decide_eq_false t1)
      clear t1
      by_cases t2 : diff (cell (turnedN cs) p &&& s) (2 ^ p) = cell (turnedN cs) x &&& s
      · have g2 := eqInt t2
        have HT1 : Hid (looseB cs s p = true) := Lib.hid (HY.out (by rw [HLA.out, HN1.out]; unfold loose1; rw [decide_eq_true t2]; rfl))
        clear t2
        gi_wp2_with fail
        refine region_quiet_round (by kernel_rfl) (by kernel_rfl) (by kernel_rfl) ?_
        repeat (gi_big_quiet_step (fail))
        refine wpQuietIn_nil ?_
        intro _ hw'
        obtain ⟨nq, hw''⟩ := hw'
        subst hw''
        gi_wp2_with fail
        exact ⟨(keeps_drewN _ W _).trans (keeps_set _ _ _ _ _), SameAt.setCell (heap_drewN _ _ _) (by omega) _, rfl, set_same ((heap_drewN _ _ _).trans H4.out), (below_to H6.out H6.out.size (below_drewN _ _)).setCell (p := ⟨w.heap.size + 1 + 1 + 1, 0, none⟩) (by simp <;> omega) _, HT1.out⟩
      · have g2 := neInt t2
        have HT1 : Hid (looseAt cs s p x = false) := Lib.hid (by rw [HLA.out, HN1.out]; unfold loose1; rw [decide_eq_false t2]; rfl)
        clear t2
        gi_wp2_with fail
        refine region_quiet_round (by kernel_rfl) (by kernel_rfl) (by kernel_rfl) ?_
        repeat (gi_big_quiet_step (fail))
        refine wpQuietIn_nil ?_
        intro _ hw'
        obtain ⟨nq, hw''⟩ := hw'
        subst hw''
        gi_wp2_with fail
        refine ⟨keeps_drewN _ W _, heap_drewN _ _ _, H1.out.drewN _, (heap_drewN _ _ _).trans H2.out, (heap_drewN _ _ _).trans H3.out, (heap_drewN _ _ _).trans H4.out, H5.out.drewN _, below_to H6.out H6.out.size (below_drewN _ _), fun q hq => ?_⟩
        rcases List.mem_append.1 hq with hq | hq
        · exact H7.out q hq
        · rw [List.mem_singleton.1 hq]; exact HT1.out
  case done =>
    rintro D W hD ⟨h1, h2, h3, h4, h5, h6, h7⟩ hK
    have hno : looseB cs s p = false := by
      rcases hl : looseB cs s p with _ | _
      · rfl
      · obtain ⟨q, hq, h⟩ := List.any_eq_true.1 hl
        rw [h7 q hq] at h; cases h
    have c3 := cell_of h4 (j := 0) rfl
    have f3 := free_of h4 0
    have HNO := Lib.hid hno
    have H4 := Lib.hid h4
    have H6 := Lib.hid h6
    clear h1 h2 h3 h4 h5 h6 h7 hno
    gi_wp2_with fail
    have hK2 : (W.setCell ⟨w.heap.size + 3, 0, none⟩ (.bool false)).heap[D]? = some (.deferred (some [])) := set_other hK (by omega)
    refine ⟨by simp, .inl ⟨_, _, rfl, run_takeDeferred hK2, ?_⟩⟩
    refine ⟨_, results_cell1 (g := w.heap.size + 3) rfl rfl (by kernel_rfl) (putObj_other (set_same H4.out) (by omega)), by rw [HNO.out], ?_⟩
    exact (H6.out.setCell (p := ⟨w.heap.size + 3, 0, none⟩) (by simp) _).trans (belowK_b (w := w) (Nat.le_refl _) _ D _ _ (by omega) hK2 rfl rfl)
  case stop =>
    rintro D c pre W hD hpre ⟨rfl, h2, h4, h5⟩ hK
    gi_wp2_with fail
    refine ⟨by simp, .inl ⟨_, _, rfl, run_takeDeferred hK, ?_⟩⟩
    refine ⟨_, results_cell1 (g := w.heap.size + 3) rfl rfl (by kernel_rfl) (putObj_other h2 (by omega)), by rw [h5], ?_⟩
    exact h4.trans (belowK_b (w := w) (Nat.le_refl _) _ D _ _ (by omega) hK rfl rfl)
end Go.Proofs.YtmagkcioplcidabDoor

/- ply: core. -/
set_option linter.unusedVariables false
set_option linter.unusedSimpArgs false
namespace Go.Proofs.YtmagkcioplcidabDoor
open Go.RowKit Go.Shelf
attribute [local go_sem] Oper.semAt_some

theorem firstsTo_next (cs : List Nat) (k : Nat) : firstsTo cs (k + 1) = if amongB (cell cs) k (cell cs k) = true then firstsTo cs k else firstsTo cs k ||| 2 ^ k := by
  have h : ((List.range k).all fun j => decide (cell cs j ≠ cell cs k)) = !amongB (cell cs) k (cell cs k) := by
    unfold amongB
    rw [List.not_any_eq_all_not]
    congr 1
    funext j
    by_cases e : cell cs j = cell cs k <;> simp [e]
  show gather (fun p => (List.range p).all fun k => decide (cell cs k ≠ cell cs p)) k ||| (if ((List.range k).all fun j => decide (cell cs j ≠ cell cs k)) = true then 2 ^ k else 0) = _
  rw [h]
  unfold firstsTo
  cases amongB (cell cs) k (cell cs k) <;> simp

set_option maxRecDepth 100000 in
set_option maxHeartbeats 3200000 in
theorem core_any (cs : List Nat) (w : World) (hc : Codes cs) (hT : Tab w) :
    Calls Tryd.prog 27 #[spV cs] w fun e w' => e = .returned (.int .u64 (coreN cs : Nat)) ∧ Below w.heap.size w w' := by
  have hn6 := hc.2.1
  have hCODES := Lib.hid hc
  clear hc
  refine (callsIn_wide (n := 20)).1 ?_
  refine callsIn_of_wp_marks Tryd.func27 rfl trivial ?_ rfl
  simp only [Tryd.ntmps27, List.size_toArray, List.length_cons, List.length_nil, Nat.reduceAdd, Nat.reduceSub, Array.replicate_succ, Array.replicate_zero, List.push_toArray, List.append_toArray, List.nil_append, List.cons_append]
  gi_wp2_with fail
  generalize hW0 : World.alloc (World.alloc w _) _ = W0
  have hbW : Below w.heap.size w W0 := by rw [← hW0]; exact ((Below.refl _ _).alloc (Nat.le_refl _) _).alloc (by simp) _
  have hb0 : SpF W0 w.heap.size cs.length (cell cs) := by rw [← hW0]; exact alloc_old (heap_alloc_new _ _)
  have hb1 : W0.heap[w.heap.size + 1]? = some (.cells #[.int .u64 0] 32) := by rw [← hW0]; exact heap_alloc_at _ _ _ (by simp)
  clear hW0
  gi_loopw [9] (fun i wr => ∃ k : Nat, k ≤ cs.length ∧ i = .int .i64 k ∧ SpF wr w.heap.size cs.length (cell cs) ∧ wr.heap[w.heap.size + 1]? = some (.cells #[.int .u64 (firstsTo cs k : Nat)] 32) ∧ Below w.heap.size w wr) (fun i _ => cs.length - (intOf i).toNat)
  case atStart => exact ⟨0, by omega, rfl, hb0, hb1, hbW⟩
  case round =>
    obtain ⟨k, hk, rfl, s0, s1, hbr⟩ := hrel
    clear hb0 hb1 hbW
    by_cases hlt : k < cs.length
    · have q1 := s0.cell (p := k) (by omega)
      have c1 := cell_of s1 (j := 0) rfl
      have f1 := free_of s1 0
      have k0 : (0 : Int) ≤ (k : Int) := by omega
      have k00 : ¬ (k : Int) < 0 := by omega
      have k1 : (k : Int) < (cs.length : Int) := by omega
      have k6 : (k : Int) < 6 := by omega
      have k7 : (k : Int) ≤ 6 := by omega
      have hnx := firstsTo_next cs k
      have S0 := Lib.hid s0
      have S1 := Lib.hid s1
      have HB := Lib.hid hbr
      clear s0 s1 hbr
      rcases ha : amongB (cell cs) k (cell cs k) with _ | _
      · have hcall : ∀ w0, SpF w0 w.heap.size cs.length (cell cs) → Calls Tryd.prog 22 #[.slice (some ⟨w.heap.size, 1, none⟩) k 6, .int .u64 (cell cs k)] w0 fun e w' => e = .returned (.bool false) ∧ w0 = w' := fun w0 h => by
          have := containsSet_any (cell cs) k (cell cs k) w.heap.size 6 cs.length w0 (by omega) h
          rwa [ha] at this
        rw [ha, if_neg (by simp)] at hnx
        have HCALL := Lib.hid hcall
        have HNX := Lib.hid hnx
        have hft := lt64_of (n := k) (by omega) (firsts_lt cs k)
        have hsh := shl_num k (by omega)
        have hor : bits .or .u64 (firstsTo cs k : Int) ((2 : Int) ^ k) = ((firstsTo cs k ||| 2 ^ k : Nat) : Int) := by
          have := u64_or (firstsTo cs k) (2 ^ k) (by omega) (by have := pow_lt64 (p := k) (by omega); omega)
          rwa [pow_int] at this
        clear hcall ha hnx
        gi_wp2_with fail
        refine wpIn_wide.2 ?_
        go_quiet ((go_at_call 22; exact (HCALL.out _ (S0.out.drewN _)).mono (fun e w' h => ⟨h.1, _, h.2.symm⟩)))
        gi_wp2_with fail
        refine region_then 4 rfl rfl rfl (by kernel_rfl) (by kernel_rfl) (by kernel_rfl) (by kernel_rfl) (by kernel_rfl) (by kernel_rfl) ?_
        dsimp only [List.dropLast]
        repeat (gi_big_quiet_step (fail))
        refine wpQuietIn_nil ?_
        intro _ hw'
        obtain ⟨nq2, hw''⟩ := hw'
        subst hw''
        go_simp
        go_at_K
        gi_wp2_with fail
        go_roundw
        case rel =>
          refine ⟨k + 1, by omega, by go_num, (S0.out.drewN _).other (by omega), ?_, (below_to HB.out HB.out.size (below_drewN _ _)).setCell (p := ⟨w.heap.size + 1, 0, none⟩) (by simp) _⟩
          rw [HNX.out]; exact set_same ((heap_drewN _ _ _).trans S1.out)
        case measure => simp [intOf]; omega
      · have hcall : ∀ w0, SpF w0 w.heap.size cs.length (cell cs) → Calls Tryd.prog 22 #[.slice (some ⟨w.heap.size, 1, none⟩) k 6, .int .u64 (cell cs k)] w0 fun e w' => e = .returned (.bool true) ∧ w0 = w' := fun w0 h => by
          have := containsSet_any (cell cs) k (cell cs k) w.heap.size 6 cs.length w0 (by omega) h
          rwa [ha] at this
        rw [ha, if_pos rfl] at hnx
        have HCALL := Lib.hid hcall
        have HNX := Lib.hid hnx
        clear hcall ha hnx
        gi_wp2_with fail
        refine wpIn_wide.2 ?_
        go_quiet ((go_at_call 22; exact (HCALL.out _ (S0.out.drewN _)).mono (fun e w' h => ⟨h.1, _, h.2.symm⟩)))
        gi_wp2_with fail
        go_roundw
        case rel => exact ⟨k + 1, by omega, by go_num, S0.out.drewN _, by rw [HNX.out]; exact (heap_drewN _ _ _).trans S1.out, below_to HB.out HB.out.size (below_drewN _ _)⟩
        case measure => simp [intOf]; omega
    · have hkn : k = cs.length := by omega
      have hfn : firstsTo cs k = firstsN cs := by rw [hkn]; rfl
      rw [hfn] at s1
      have hfl : firstsN cs < 2 ^ cs.length := firsts_lt cs _
      clear hfn
      gi_wp2_with fail
      refine wpIn_loop (fun a' w' => ∃ (s : Nat) (u2 u4 u5 u6 u7 u8 u9 u10 u11 u12 u13 u14 u15 u16 u17 u18 u19 u20 u21 u22 u23 u24 u25 u26 u27 u28 u29 u30 u31 u32 u33 u34 u35 u36 u37 u38 u39 u40 : Value) (ds : List Deferred), s < 2 ^ cs.length ∧ coreOf cs s = coreN cs ∧ SpF w' w.heap.size cs.length (cell cs) ∧ w'.heap[w.heap.size + 1]? = some (.cells #[.int .u64 (s : Nat)] 32) ∧ Below w.heap.size w w' ∧ Marks w.heap.size w'.heap.size ds w' ∧ a' = { tmps := #[spV cs, .pointer (some ⟨w.heap.size, 0, none⟩), u2, .pointer (some ⟨w.heap.size + 1, 0, none⟩), u4, u5, u6, u7, u8, u9, u10, u11, u12, u13, u14, u15, u16, u17, u18, u19, u20, u21, u22, u23, u24, u25, u26, u27, u28, u29, u30, u31, u32, u33, u34, u35, u36, u37, u38, u39, u40], defers := ds }) (fun _ w' => match w'.cell? ⟨w.heap.size + 1, 0, none⟩ with | some (.int _ c) => c.toNat | _ => 0) ⟨firstsN cs, _, _, _, _, _, _, _, _, _, _, _, _, _, _, _, _, _, _, _, _, _, _, _, _, _, _, _, _, _, _, _, _, _, _, _, _, _, _, [], hfl, rfl, s0, s1, hbr, trivial, rfl⟩ ?_
      rintro a' W ⟨s, u2, u4, u5, u6, u7, u8, u9, u10, u11, u12, u13, u14, u15, u16, u17, u18, u19, u20, u21, u22, u23, u24, u25, u26, u27, u28, u29, u30, u31, u32, u33, u34, u35, u36, u37, u38, u39, u40, ds, hs, hco, z0, z1, hbz, hmk, rfl⟩
      have h64 := lt64_of hn6 hs
      have c1 := cell_of z1 (j := 0) rfl
      have hb2 : w.heap.size + 2 ≤ W.heap.size := by have := heap_lt z1; omega
      have hal : Below W.heap.size W (W.alloc (.cells #[.int .i64 (-1)] 3)) := (Below.refl _ _).alloc (Nat.le_refl _) _
      have y0 := heap_alloc_new W (.cells #[.int .i64 (-1)] 3)
      have z0' := z0.below hal
      have z1' := (hal.block _ (heap_lt z1)).trans z1
      have hbz' := below_to hbz hbz.size hal
      have hmk' := hmk.below hal
      have hszA : (W.alloc (.cells #[.int .i64 (-1)] 3)).heap.size = W.heap.size + 1 := by simp
      have c1' := cell_of z1' (j := 0) rfl
      have HCO := Lib.hid hco
      have HC0 := Lib.hid c1
      clear z0 z1 hbz hmk c1 hal hco s0 s1 hbr
      gi_wp2_with fail
      generalize hWA : World.alloc W _ = WA at *
      generalize hB : W.heap.size = B at *
      clear hWA hB
      refine ⟨trivial, (callsIn_wide.2 (points_any s _)).mono ?_⟩
      rintro e w1 ⟨rfl, rfl⟩
      have hal : Below WA.heap.size WA (WA.alloc (.cells #[.int .u64 (s : Nat)] 32)) := (Below.refl _ _).alloc (Nat.le_refl _) _
      have hBs := heap_alloc_new WA (.cells #[.int .u64 (s : Nat)] 32)
      have x0 := z0'.below hal
      have x1 := (hal.block _ (heap_lt z1')).trans z1'
      have x2 := (hal.block _ (heap_lt y0)).trans y0
      have xb := below_to hbz' hbz'.size hal
      have xm := hmk'.below hal
      have hszB : (WA.alloc (.cells #[.int .u64 (s : Nat)] 32)).heap.size = B + 2 := by simp [hszA]
      rw [hszA] at hBs ⊢
      generalize hWB : World.alloc WA _ = WB at *
      have HB2 := Lib.hid hb2
      clear hWB hal z0' z1' y0 hbz' hmk' hszA c1'
      gi_wp2_with fail
      have hb2 := HB2.out
      refine range_pts (gf := 33) (Bs := B + 1) (s := s) rfl (enters_of Tryd.func33 (by kernel_rfl) rfl)
        (points_given s (B + 1) h64 19 (by omega) WB (by omega)) hBs rfl
        (fun pre W => SpF W w.heap.size cs.length (cell cs) ∧ W.heap[w.heap.size + 1]? = some (.cells #[.int .u64 (s : Nat)] 32) ∧ W.heap[B]? = some (.cells #[.int .i64 (-1)] 3) ∧ Below w.heap.size w W ∧ Marks w.heap.size B ds W ∧ B + 2 ≤ W.heap.size ∧ ∀ q ∈ pre, looseB cs s q = false)
        (fun c pre W => c = .exit 4 ∧ SpF W w.heap.size cs.length (cell cs) ∧ W.heap[w.heap.size + 1]? = some (.cells #[.int .u64 (s : Nat)] 32) ∧ (∃ x : Nat, x < 6 ∧ W.heap[B]? = some (.cells #[.int .i64 x] 3) ∧ firstLoose cs s = some x) ∧ Below w.heap.size w W ∧ Marks w.heap.size B ds W) ?a1 ?hI ?hIx ?hIB (fun pre W h => hT.below h.2.2.2.1) ⟨x0, x1, x2, xb, xm, by omega, by simp⟩ ?assign ?body ?done ?stop
      case assign =>
        intro l x W K hK
        gi_wp2
        exact hK
      case hI =>
        rintro s W W' row ⟨h1, h2, h3, h4, h5, h7, h6⟩ hg hr
        exact ⟨own_block hg hr (by omega) h1, own_block hg hr (by omega) h2, own_block hg hr (by omega) h3, h4.grown hg h4.size (fun k e => by have := (hr k e).1; omega), h5.grown hg (fun k e => by have := (hr k e).1; omega), Nat.le_trans h7 hg.size, h6⟩
      case hIx =>
        rintro c s W W' row ⟨h0, h1, h2, ⟨x, hx, h3, h3'⟩, h4, h5⟩ hg hr
        exact ⟨h0, own_block hg hr (by omega) h1, own_block hg hr (by omega) h2, ⟨x, hx, own_block hg hr (by omega) h3, h3'⟩, h4.grown hg h4.size (fun k e => by have := (hr k e).1; omega), h5.grown hg (fun k e => by have := (hr k e).1; omega)⟩
      case hIB =>
        rintro s W v ⟨h1, h2, h3, h4, h5, h7, h6⟩
        exact ⟨h1.other (by omega), set_other h2 (by omega), set_other h3 (by omega), h4.setCell (p := ⟨B + 1, 0, none⟩) (by simp; omega) _, h5.setCell _ _ _, by simpa using h7, h6⟩
      case body =>
        rintro l pre x W hl ⟨h1, h2, h3, h4, h5, h7, h6⟩ hpx
        obtain ⟨hxb, hx6⟩ := pre_bit h64 hpx
        obtain ⟨d0, d1, d2, d3, d4, d5, d6⟩ := h1.cells
        have c2 := cell_of h2 (j := 0) rfl
        have c3 := cell_of h3 (j := 0) rfl
        have f3 := free_of h3 0
        have hTW := hT.below h4
        have HPX := Lib.hid hpx
        have H1 := Lib.hid h1
        have H2 := Lib.hid h2
        have H3 := Lib.hid h3
        have H4 := Lib.hid h4
        have H5 := Lib.hid h5
        have H6 := Lib.hid h6
        have HTW := Lib.hid hTW
        have HW : Hid (B + 2 ≤ W.heap.size) := Lib.hid h7
        clear h1 h2 h3 h4 h5 h6 hpx hxb hTW
        gi_wp2_with fail
        refine ⟨trivial, (callsIn_wide.2 (loose_any cs s x _ hCODES.out hs hx6 HTW.out)).mono ?_⟩
        rintro e w2 ⟨rfl, hb3⟩
        have r1 := H1.out.below hb3
        have r2 := (hb3.block _ (heap_lt H2.out)).trans H2.out
        have r3 := (hb3.block _ (heap_lt H3.out)).trans H3.out
        have r4 := below_to H4.out H4.out.size hb3
        have r5 := H5.out.below hb3
        have hBs2 : SameAt (B + 1) W w2 := hb3.block _ (by have := HW.out; omega)
        have hkf : KeepsFrom WB.heap.size W w2 := ⟨hb3.size, fun k o _ hk _ => (hb3.block k (heap_lt hk)).trans hk⟩
        rcases hl2 : looseB cs s x with _ | _
        · have HL := Lib.hid hl2
          clear hl2 d0 d1 d2 d3 d4 d5 d6 c2 c3 f3
          gi_wp2_with fail
          refine ⟨hkf, hBs2, r1, r2, r3, r4, r5, Nat.le_trans HW.out hb3.size, fun q hq => ?_⟩
          rcases List.mem_append.1 hq with hq | hq
          · exact H6.out q hq
          · rw [List.mem_singleton.1 hq]; exact HL.out
        · have hfl2 : firstLoose cs s = some x := by
            unfold firstLoose
            obtain ⟨rest, hrest⟩ := HPX.out
            rw [← hrest, List.append_assoc, List.find?_append, List.find?_eq_none.2 (fun q hq => by rw [H6.out q hq]; simp)]
            simp [hl2]
          have HFL := Lib.hid hfl2
          have R1 := Lib.hid r1
          have R2 := Lib.hid r2
          have R3 := Lib.hid r3
          have R4 := Lib.hid r4
          have R5 := Lib.hid r5
          have c3' := cell_of r3 (j := 0) rfl
          have f3' := free_of r3 0
          clear hl2 hfl2 d0 d1 d2 d3 d4 d5 d6 c2 c3 f3 r1 r2 r3 r4 r5
          gi_wp2_with fail
          exact ⟨hkf.trans (keeps_set _ _ _ _ _), SameAt.setCell hBs2 (by omega) _, rfl, R1.out.other (by omega), set_other R2.out (by omega), ⟨x, hx6, set_same R3.out, HFL.out⟩, R4.out.setCell (p := ⟨B, 0, none⟩) (by simp; omega) _, R5.out.setCell _ _ _⟩
      case done =>
        rintro D W hD ⟨h1, h2, h3, h4, h5, h7, h6⟩ hK
        have hnone : firstLoose cs s = none := List.find?_eq_none.2 (fun q hq => by rw [h6 q hq]; simp)
        have hfin : s = coreN cs := by rw [← HCO.out]; exact (core_none hnone).symm
        have c2 := cell_of h2 (j := 0) rfl
        have c3 := cell_of h3 (j := 0) rfl
        have hm2 := h5.add (D := D) (by omega) (by omega) hK
        have HF := Lib.hid hfin
        have H4 := Lib.hid h4
        have HM := Lib.hid hm2
        clear h1 h2 h3 h4 h5 h6 hnone hfin hm2
        gi_wp2_with fail
        refine leave_marks _ _ _ HM.out fun w' hs => ?_
        exact ⟨_, results_tmp rfl _ _ _, by rw [← HF.out]; rfl, H4.out.trans hs.below⟩
      case stop =>
        rintro D c pre W hD hpre ⟨rfl, h1, h2, ⟨x, hx6, h3, hfl2⟩, h4, h5⟩ hK
        have c2 := cell_of h2 (j := 0) rfl
        have c3 := cell_of h3 (j := 0) rfl
        have f2 := free_of h2 0
        have hm2 := h5.add (D := D) (by omega) (by omega) hK
        have hm3 : Marks w.heap.size W.heap.size ({ target := .collected D, args := #[] } :: ds) W := hm2.mono (by have := heap_lt hK; omega)
        have hsh := shl_num x hx6
        have hpw := pow_lt64 hx6
        have hdf : bits .andNot .u64 (s : Int) ((2 : Int) ^ x) = ((diff s (2 ^ x) : Nat) : Int) := by
          have := u64_andNot s (2 ^ x) (by omega) (by omega)
          rwa [pow_int] at this
        have hlt := diff_lt_self (firstLoose_bit h64 hfl2).1
        have x0' : (0 : Int) ≤ (x : Int) := by omega
        have x00 : ¬ (x : Int) < 0 := by omega
        have x6 : (x : Int) < 6 := by omega
        have HC2 : Hid (coreOf cs (diff s (2 ^ x)) = coreN cs) := Lib.hid (by rw [← core_some h64 hfl2]; exact HCO.out)
        have HLT := Lib.hid hlt
        have HDS : Hid (diff s (2 ^ x) < 2 ^ cs.length) := Lib.hid (diff_lt hs)
        have H1 := Lib.hid h1
        have H2 := Lib.hid h2
        have H4 := Lib.hid h4
        have HM := Lib.hid hm3
        clear h1 h2 h3 h4 h5 hfl2 hm2 hm3 hlt
        gi_wp2_with fail
        refine region_then 4 rfl rfl rfl (by kernel_rfl) (by kernel_rfl) (by kernel_rfl) (by kernel_rfl) (by kernel_rfl) (by kernel_rfl) ?_
        dsimp only [List.dropLast]
        repeat (gi_big_quiet_step (fail))
        refine wpQuietIn_nil ?_
        intro _ hw'
        obtain ⟨nq2, hw''⟩ := hw'
        subst hw''
        go_simp
        refine ⟨⟨diff s (2 ^ x), _, _, _, _, _, _, _, _, _, _, _, _, _, _, _, _, _, _, _, _, _, _, _, _, _, _, _, _, _, _, _, _, _, _, _, _, _, _, _, HDS.out, HC2.out, (H1.out.drewN _).other (by omega), set_same ((heap_drewN _ _ _).trans H2.out), (below_to H4.out H4.out.size (below_drewN _ _)).setCell (p := ⟨w.heap.size + 1, 0, none⟩) (by simp) _, (HM.out.below (below_drewN _ _)).setCell _ _ _ |>.mono (by simp [size_drewN]), rfl⟩, ?_⟩
        rw [cell_of (set_same ((heap_drewN _ _ _).trans H2.out)) (j := 0) rfl, HC0.out]
        have := HLT.out
        simp
        omega
end Go.Proofs.YtmagkcioplcidabDoor

/- ply: numbers, Core. -/
set_option linter.unusedVariables false
set_option linter.unusedSimpArgs false
namespace Go.Proofs.YtmagkcioplcidabDoor
open Go.RowKit Go.Shelf
attribute [local go_sem] Oper.semAt_some

theorem append_intKIn {F : Fence} {n : Nat} {ops : Array Oper} {rest : List Oper} {o : Oper} {a : Act} {w0 w : World} {Q : Exit → Act → World → Prop} (hgd : o.guard = none) (s x : Operand)
    (ho : o.op = .call { callee := .builtin .append, args := #[s, x], argTypes := #[37, 37] }) {v : Value} {xs : List Int} (hc : Col w0 w v xs) (hs : a.eval s = v)
    (y : Int) (hx : a.eval x = .slice (some ⟨w.heap.size, 0, none⟩) 1 1) (hlen : xs.length ≤ 1000000000)
    (h : ∀ v' w', Col w0 w' v' (xs ++ [y]) → v' ≠ .slice none 0 0 → KeepNI w w' → KeepsFrom w.heap.size w w' → wpListIn F n Tryd.prog ops Q rest (a.put o.dst v') w') : wpListIn F n Tryd.prog ops Q (o :: rest) a (w.alloc (.cells #[.int .i64 y] 3)) := by
  obtain ⟨i0, hi, hz0, hz1, hz2⟩ := info_parts infoInt
  refine wpListIn_append_own _ hgd s x 37 ho w0.heap.size 3 i0 (.int .i64 0) 1 8 Tryd.underlying37 hi hz0 hz1 hz2 rfl (by decide) v xs.length (xs.map (Value.int .i64)) hs (hc.own.alloc _) ⟨w.heap.size, 0, none⟩ 1 1 [.int .i64 y] hx rfl (cell_one_new _ _ _) (by simp [Value.oneCell']) (by simp only [maxLen]; omega) (by omega) (by have := hc.below.size; simp; omega) ?_
  intro v' w' hown' hgrow hnil
  have keep : ∀ (k : Nat) (o' : Obj), w.heap[k]? = some o' → (∀ cs fr, o' ≠ .cells cs 3 fr) → w'.heap[k]? = some o' := fun k o' hk hno => by
    have hk2 : (w.alloc (.cells #[.int .i64 y] 3)).heap[k]? = some o' := alloc_old hk
    refine (hgrow.block k (heap_lt hk2) (fun e => ?_)).trans hk2
    obtain ⟨cs, fr, hr⟩ := hc.notInt k e.symm
    rw [hk] at hr
    exact hno cs fr (Option.some.inj hr)
  refine h v' w' ⟨by simpa using hown', ?_⟩ (fun e => by simpa using (hnil.1 e).2) keep ⟨Nat.le_trans (by simp) hgrow.size, fun k o' _ hk ho' => keep k o' hk (fun cs fr e => by subst e; cases ho')⟩
  refine (hc.below.alloc hc.below.size _).grown hgrow (by have := hc.below.size; simp; omega) ?_
  intro k hk
  exact (World.ownsRow.lt (hc.own.alloc (.cells #[.int .i64 y] 3)) k hk.symm.symm).1
theorem ofNats_snoc (l : List Nat) (x : Nat) : ofNats (l ++ [x]) = ofNats l ++ [(x : Int)] := by simp [ofNats]
theorem Col.ownNotInt {w0 w : World} {v : Value} {xs : List Int} (h : Col w0 w v xs) : v = .slice none 0 0 ∨ ∃ a l c, v = .slice a l c := by
  obtain ⟨_, h1 | ⟨g, cap, cur, h1, _⟩⟩ := h.own
  · exact .inl h1.1
  · exact .inr ⟨_, _, _, h1⟩
theorem Col.isSlice {w0 w : World} {v : Value} {xs : List Int} (h : Col w0 w v xs) : ∃ a l c, v = Value.slice a l c := by
  rcases h.ownNotInt with rfl | h
  · exact ⟨_, _, _, rfl⟩
  · exact h
theorem KeepNI.slices {w w' : World} {b : Nat} {c : Array Value} (h : KeepNI w w') (hs : w.heap[b]? = some (.cells c 37)) : w'.heap[b]? = some (.cells c 37) := h b _ hs (fun cs fr e => by
  injection e with _ h2 _
  exact absurd h2 (by decide))
/-- a cell of another type is written -/
theorem Col.setCell {w0 w : World} {v : Value} {xs : List Int} (h : Col w0 w v xs) {b : Nat} {t : TypeId} {cs : Array Value} (hb : w0.heap.size ≤ b) (hc : w.heap[b]? = some (.cells cs t)) (ht : t ≠ 3) (u : Value) : Col w0 (w.setCell ⟨b, 0, none⟩ u) v xs := by
  refine ⟨?_, h.below.setCell (p := ⟨b, 0, none⟩) hb u⟩
  obtain ⟨h1, h2 | ⟨g, cap, cur, h3, h4, h5, h6⟩⟩ := h.own
  · exact ⟨h1, .inl h2⟩
  · refine ⟨h1, .inr ⟨g, cap, cur, h3, h4, ?_, h6⟩⟩
    refine (heap_setCell_other _ _ _ _ (fun e => ?_)).trans h5
    have e' : g = b := e
    rw [← e', h5] at hc
    injection hc with hc
    injection hc with _ hc _
    exact ht hc.symm

theorem Col.putObj {w0 w : World} {v : Value} {xs : List Int} (h : Col w0 w v xs) {D : Nat} {ds : Option (List Deferred)} (hD : w0.heap.size ≤ D) (hK : w.heap[D]? = some (.deferred ds)) (o' : Obj) : Col w0 (w.putObj D o') v xs := by
  refine ⟨?_, h.below.trans (belowK_b (w := w0) (Nat.le_refl _) w D _ o' hD hK rfl rfl)⟩
  obtain ⟨h1, h2 | ⟨g, cap, cur, h3, h4, h5, h6⟩⟩ := h.own
  · exact ⟨h1, .inl h2⟩
  · refine ⟨h1, .inr ⟨g, cap, cur, h3, h4, putObj_other h5 (fun e => ?_), h6⟩⟩
    subst e
    rw [h5] at hK; cases hK
set_option maxRecDepth 100000 in
set_option maxHeartbeats 1600000 in
theorem appendSeq_any (wP w : World) (s : Nat) (hs : s < 64) (hb : Below wP.heap.size wP w) (hB : w.heap[wP.heap.size]? = some (.cells #[.int .u64 s] 32)) (hT : Tab wP) :
    Calls Tryd.prog 47 #[.slice none 0 0, .func (.func 33) #[] #[.pointer (some ⟨wP.heap.size, 0, none⟩)]] w fun e w' => ∃ v', e = .returned v' ∧ Col wP w' v' (ofNats (bitsOf s)) := by
  refine (callsIn_wide (n := 20)).1 ?_
  refine callsIn_of_wp_marks Tryd.func47 rfl trivial ?_ rfl
  simp only [Tryd.ntmps47, List.size_toArray, List.length_cons, List.length_nil, Nat.reduceAdd, Nat.reduceSub, Array.replicate_succ, Array.replicate_zero, List.push_toArray, List.append_toArray, List.nil_append, List.cons_append]
  have hlt := heap_lt hB
  gi_wp2_with fail
  generalize hW0 : World.alloc w _ = W0
  have hal : Below w.heap.size w W0 := by rw [← hW0]; exact (Below.refl _ _).alloc (Nat.le_refl _) _
  have hsz : W0.heap.size = w.heap.size + 1 := by rw [← hW0]; simp
  have b0 : W0.heap[w.heap.size]? = some (.cells #[.slice none 0 0] 37) := by rw [← hW0]; exact heap_alloc_new _ _
  have b1 := (hal.block _ hlt).trans hB
  have bb := below_to hb hb.size hal
  clear hW0
  generalize hB0 : w.heap.size = B at *
  clear hB0 hal hB
  refine range_pts (gf := 33) (Bs := wP.heap.size) (s := s) rfl (enters_of Tryd.func33 (by kernel_rfl) rfl)
    (points_given s wP.heap.size hs 19 (by omega) W0 (by omega)) b1 rfl
    (fun pre W => ∃ v, W.heap[B]? = some (.cells #[v] 37) ∧ Col wP W v (ofNats pre) ∧ (∃ c, W.heap[wP.heap.size]? = some (.cells c 32)))
    (fun c pre W => False) ?a1 ?hI (fun c s W W' row h _ _ => h) ?hIB (fun pre W h => by obtain ⟨v, _, h2, _⟩ := h; exact hT.below h2.below) ⟨_, b0, ⟨World.ownsRow_nil _ _ _ _, bb⟩, _, b1⟩ ?assign ?body ?done ?stop
  case assign =>
    intro l x W K hK
    gi_wp2
    exact hK
  case hI =>
    rintro s W W' row ⟨v, h1, h2, c, h3⟩ hg hr
    refine ⟨v, own_cells hg hr h1, ⟨?_, h2.below.grown hg h2.below.size (fun k e => by have := (hr k e).1; omega)⟩, c, own_cells hg hr h3⟩
    obtain ⟨g1, g2 | ⟨g, cap, cur, g3, g4, g5, g6⟩⟩ := h2.own
    · exact ⟨g1, .inl g2⟩
    · exact ⟨g1, .inr ⟨g, cap, cur, g3, g4, own_cells hg hr g5, g6⟩⟩
  case hIB =>
    rintro s W v ⟨v0, h1, h2, c, h3⟩
    exact ⟨v0, set_other h1 (by omega), h2.setCell (Nat.le_refl _) h3 (by decide) _, c.setIfInBounds 0 v, heap_setCell_same _ _ 0 _ _ v h3⟩
  case body =>
    rintro l pre x W hl ⟨v, h1, h2, c, h3⟩ hpx
    have c1 := cell_of h1 (j := 0) rfl
    have HL : Hid ((ofNats pre).length ≤ 1000000000) := Lib.hid (by
      rw [ofNats_len]
      have h4 := hpx.length_le
      have h5 : (bitsOf s).length ≤ 6 := by unfold bitsOf; exact Nat.le_trans (List.length_filter_le _ _) (by simp)
      simp at h4; omega)
    have H1 := Lib.hid h1
    have H2 := Lib.hid h2
    have H3 := Lib.hid h3
    have hf := free_of h1 0
    have hbl : B < W.heap.size := heap_lt h1
    obtain ⟨va, vl, vc, rfl⟩ := h2.isSlice
    clear h1 h2 h3 hpx
    gi_wp2_with (gi_at_builtin; refine append_intKIn rfl _ _ rfl H2.out rfl _ rfl HL.out ?_; intro v' w' hcol' hne hkeep hkf; obtain ⟨va2, vl2, vc2, rfl⟩ := hcol'.isSlice; have H4 := Lib.hid (hkeep.slices H1.out); have c1' := cell_of H4.out (j := 0) rfl; have f1' := free_of H4.out 0)
    obtain ⟨c, h3⟩ := (⟨c, H3.out⟩ : ∃ c, W.heap[wP.heap.size]? = some (.cells c 32))
    have h3' := hkeep.set h3
    refine ⟨(KeepsFrom.trans ⟨hkf.size, fun k o hk h ho => ?_⟩ (keeps_set _ _ _ _ _)), SameAt.setCell (h3'.trans h3.symm) (by omega) _, _, set_same H4.out, ?_, _, set_other h3' (by omega)⟩
    · exact hkeep k o h (fun cs fr e => by subst e; cases ho)
    · rw [ofNats_snoc]
      exact hcol'.setCell (by omega) H4.out (by decide) _
  case done =>
    rintro D W hD ⟨v, h1, h2, h3⟩ hK
    have c1 := cell_of h1 (j := 0) rfl
    obtain ⟨va, vl, vc, rfl⟩ := h2.isSlice
    have H2 := Lib.hid h2
    clear h1 h2 h3
    gi_wp2_with fail
    refine ⟨by simp, .inl ⟨_, _, rfl, run_takeDeferred hK, ?_⟩⟩
    refine ⟨_, results_tmp rfl _ _ _, _, rfl, ?_⟩
    exact H2.out.putObj (by omega) hK _
  case stop =>
    rintro D c pre W hD hpre h
    exact h.elim
theorem collect_any (wP w : World) (s : Nat) (hs : s < 64) (hb : Below wP.heap.size wP w) (hB : w.heap[wP.heap.size]? = some (.cells #[.int .u64 s] 32)) (hT : Tab wP) :
    Calls Tryd.prog 39 #[.func (.func 33) #[] #[.pointer (some ⟨wP.heap.size, 0, none⟩)]] w fun e w' => ∃ v', e = .returned v' ∧ Col wP w' v' (ofNats (bitsOf s)) := by
  go_enter Tryd.func39, Tryd.ntmps39
  go_wp2_with fail
  refine (appendSeq_any wP w s hs hb hB hT).mono ?_
  rintro e w' ⟨v', rfl, hcol⟩
  obtain ⟨va, vl, vc, rfl⟩ := hcol.isSlice
  go_wp2_with fail
  go_ret
  exact ⟨_, rfl, hcol⟩
theorem numbers_any (s : Nat) (w : World) (hs : s < 64) (hT : Tab w) :
    Calls Tryd.prog 28 #[.int .u64 s] w fun e w' => ∃ v', e = .returned v' ∧ Col w w' v' (ofNats (bitsOf s)) := by
  go_enter Tryd.func28, Tryd.ntmps28
  go_wp2_with fail
  refine (points_any s _).mono ?_
  rintro e w1 ⟨rfl, rfl⟩
  go_wp2_with fail
  refine (collect_any w _ s hs ((Below.refl _ _).alloc (Nat.le_refl _) _) (heap_alloc_new _ _) hT).mono ?_
  rintro e w' ⟨v', rfl, hcol⟩
  obtain ⟨va, vl, vc, rfl⟩ := hcol.isSlice
  go_wp2_with fail
  go_ret
  exact ⟨_, rfl, hcol⟩
theorem coreN_lt {cs : List Nat} (hc : Codes cs) : coreN cs < 64 :=
  (core_ind (P := fun _ => True) (fun _ _ _ _ _ _ => trivial) _ _ (Nat.le_refl _) (lt64_of hc.2.1 (firsts_lt cs _)) trivial).2.2
set_option maxRecDepth 100000 in
set_option maxHeartbeats 800000 in
theorem Core_yes (v : Value) (cs : List Nat) (w : World) (hr : Reads w v (ofNats cs)) (hc : Codes cs) (hsp : spaceB cs = true) (hT : Tab w) :
    Calls Tryd.prog 15 #[v] w fun e w' => ∃ v', e = .returned (.tuple #[v', .int .i64 0]) ∧ Col w w' v' (ofNats (bitsOf (coreN cs))) := by
  have hr0 := hr
  obtain ⟨a, cap, rfl, _, _, _⟩ := hr.open
  clear hr
  go_enter Tryd.func15, Tryd.ntmps15
  go_wp2_with fail
  refine (newSpace_yes _ cs _ hr0 hc hsp hT).mono ?_
  rintro e w1 ⟨rfl, hb1⟩
  obtain ⟨hs1, hb2⟩ := lay_sp hb1 cs.length (cell cs)
  have hT2 := hT.below hb2
  go_wp2_with fail
  generalize hW : World.alloc w1 _ = W at *
  clear hW
  obtain ⟨d0, d1, d2, d3, d4, d5, d6⟩ := hs1.cells
  clear hs1
  go_wp2_with fail
  refine (core_any cs _ hc hT2).mono ?_
  rintro e w2 ⟨rfl, hb3⟩
  have hb4 := below_to hb2 hb2.size hb3
  have hT3 := hT2.below hb3
  clear d0 d1 d2 d3 d4 d5 d6
  go_wp2_with fail
  refine (numbers_any (coreN cs) _ (coreN_lt hc) hT3).mono ?_
  rintro e w3 ⟨v', rfl, hcol⟩
  obtain ⟨va, vl, vc, rfl⟩ := hcol.isSlice
  go_wp2_with fail
  go_ret2
  exact ⟨_, rfl, hcol.lower hb4⟩
set_option maxRecDepth 100000 in
theorem Core_no (v : Value) (l : List Int) (w : World) (hr : Reads w v l) (h : spL l = false) (hT : Tab w) :
    Calls Tryd.prog 15 #[v] w fun e w' => e = .returned (.tuple #[.slice none 0 0, .int .i64 2]) ∧ Below w.heap.size w w' := by
  have hr0 := hr
  obtain ⟨a, cap, rfl, _, _, _⟩ := hr.open
  clear hr
  go_enter Tryd.func15, Tryd.ntmps15
  go_wp2_with fail
  refine (newSpace_no _ l _ hr0 h hT).mono ?_
  rintro e w1 ⟨n, c, rfl, hb1⟩
  obtain ⟨hs1, hb2⟩ := lay_sp hb1 n c
  go_wp2_with fail
  go_ret2
  exact ⟨rfl, hb2⟩
end Go.Proofs.YtmagkcioplcidabDoor

/- Maps that a call makes, by the list of what was put into them. -/
set_option linter.unusedVariables false
set_option linter.unusedSimpArgs false
namespace Go.Proofs.YtmagkcioplcidabDoor
open Go.RowKit

/-- where a key stands in a list of keys, with what the entry holds -/
def findSpec {α : Type} [DecidableEq α] (a : α) : List α → List MapEntry → Nat → Option (Nat × Value)
  | k :: ks, e :: es, i => if a = k then some (i, e.val) else findSpec a ks es (i + 1)
  | _, _, _ => none
theorem findSpec_none {α : Type} [DecidableEq α] {a : α} : ∀ {ks : List α} {es : List MapEntry} {i : Nat}, a ∉ ks → findSpec a ks es i = none
  | [], _, _, _ => rfl
  | _ :: _, [], _, _ => rfl
  | k :: ks, e :: es, i, h => by
    simp only [List.mem_cons, not_or] at h
    rw [findSpec, if_neg h.1]; exact findSpec_none h.2
theorem findSpec_some {α : Type} [DecidableEq α] {a : α} : ∀ {ks : List α} {es : List MapEntry} {i : Nat}, a ∈ ks → es.length = ks.length → ∃ j, findSpec a ks es i = some (i + j, (es.getD j default).val) ∧ ks[j]? = some a
  | [], _, _, h, _ => by simp at h
  | k :: ks, [], _, _, hl => by simp at hl
  | k :: ks, e :: es, i, h, hl => by
    by_cases hk : a = k
    · subst hk; exact ⟨0, by simp [findSpec], rfl⟩
    · have h' : a ∈ ks := by simpa [hk] using h
      obtain ⟨j, h1, h2⟩ := findSpec_some (i := i + 1) h' (by simpa using hl)
      exact ⟨j + 1, by rw [findSpec, if_neg hk, h1]; simp [Nat.add_assoc, Nat.add_comm 1 j], by simpa using h2⟩

/-- how the keys of a map are told -/
structure KeyOK (kt : TypeId) {α : Type} [DecidableEq α] (ek : α → Value) : Prop where
  check : ∀ a em w, (Instr.checkKey em 10000 kt (ek a)).run Tryd.prog w = .ok () w
  find : ∀ a (es : List MapEntry) (ks : List α) w, es.map (·.key) = ks.map ek → (Instr.findKey kt (ek a) es).run Tryd.prog w = .ok (findSpec a ks es 0) w

/-- block b is a map that holds just these keys, with these elements -/
def MapIs {α : Type} (ek : α → Value) (w : World) (b : Nat) (kvs : List (α × Value)) : Prop :=
  ∃ es clock, w.heap[b]? = some (.map es clock) ∧ es.toList.map (·.key) = kvs.map (fun p => ek p.1) ∧ es.toList.map (·.val) = kvs.map (·.2)

theorem MapIs.made {α : Type} (ek : α → Value) (w : World) : MapIs ek (w.alloc (.map #[] 0)) w.heap.size [] := ⟨#[], 0, heap_alloc_new _ _, rfl, rfl⟩
theorem MapIs.of_block {α : Type} {ek : α → Value} {w w' : World} {b : Nat} {kvs : List (α × Value)} (h : MapIs ek w b kvs) (hb : w'.heap[b]? = w.heap[b]?) : MapIs ek w' b kvs := by
  obtain ⟨es, clock, h1, h2⟩ := h
  exact ⟨es, clock, hb.trans h1, h2⟩
theorem MapIs.lt {α : Type} {ek : α → Value} {w : World} {b : Nat} {kvs : List (α × Value)} (h : MapIs ek w b kvs) : b < w.heap.size := by
  obtain ⟨es, clock, h1, h2⟩ := h
  exact (Array.getElem?_eq_some_iff.1 h1).1

section
variable {α : Type} [DecidableEq α] {ek : α → Value} {w : World} {b : Nat} {kvs : List (α × Value)} {t kt et : TypeId}

theorem run_lookup_no (K : KeyOK kt ek) (ht : Tryd.prog.underlying t = some (.map kt et)) {z : Value} (hz : (zeroValue et).run Tryd.prog w = .ok z w) (h : MapIs ek w b kvs) {a : α} (ha : a ∉ kvs.map (·.1)) (ok : Bool) :
    (Instr.lookup t (.map (some b)) (ek a) ok).run Tryd.prog w = .ok (if ok then .tuple #[z, .bool false] else z) w := by
  obtain ⟨es, clock, h1, h2, h3⟩ := h
  have hf := K.find a es.toList (kvs.map (·.1)) w (by rw [h2, List.map_map]; rfl)
  rw [findSpec_none ha] at hf
  simp only [Instr.lookup, getObj, Sem.run_bind, run_underlying ht, Result.andThen_ok, Sem.run, h1, Sem.run_pure, K.check, hf, hz]

theorem find_yes (K : KeyOK kt ek) {es : Array MapEntry} (h2 : es.toList.map (·.key) = kvs.map (fun p => ek p.1)) (h3 : es.toList.map (·.val) = kvs.map (·.2)) {a : α} {v : Value} (hn : (kvs.map (·.1)).Nodup) (ha : (a, v) ∈ kvs) :
    ∃ j, (Instr.findKey kt (ek a) es.toList).run Tryd.prog w = .ok (some (j, v)) w := by
  have hf := K.find a es.toList (kvs.map (·.1)) w (by rw [h2, List.map_map]; rfl)
  have hl : es.toList.length = kvs.length := by have := congrArg List.length h3; simpa using this
  obtain ⟨j, h4, h5⟩ := findSpec_some (i := 0) (es := es.toList) (List.mem_map_of_mem (f := (·.1)) ha) (by simpa using hl)
  suffices hv : (es.toList.getD j default).val = v by rw [h4, hv] at hf; exact ⟨_, hf⟩
  obtain ⟨p, hp, hpa⟩ : ∃ p, kvs[j]? = some p ∧ p.1 = a := by simpa using h5
  obtain ⟨hj, hp'⟩ := List.getElem?_eq_some_iff.1 hp
  obtain ⟨i, hi, hi'⟩ := List.getElem_of_mem ha
  have hij : i = j := by
    refine (List.getElem_inj (xs := kvs.map (·.1)) (h₀ := by simpa using hi) (h₁ := by simpa using hj) hn).1 ?_
    simp [hi', hp', hpa]
  subst hij
  have hpv : p.2 = v := by rw [hi'] at hp'; rw [← hp']
  have : (es.toList.map (·.val))[i]? = some v := by rw [h3]; simp [hp, hpv]
  have hil : i < es.toList.length := by omega
  rw [List.getElem?_map, List.getElem?_eq_getElem hil] at this
  simp only [Option.map_some, Option.some.injEq] at this
  rw [List.getD_eq_getElem?_getD, List.getElem?_eq_getElem hil, Option.getD_some, this]

theorem run_lookup_yes (K : KeyOK kt ek) (ht : Tryd.prog.underlying t = some (.map kt et)) (h : MapIs ek w b kvs) {a : α} {v : Value} (hn : (kvs.map (·.1)).Nodup) (ha : (a, v) ∈ kvs) (ok : Bool) :
    (Instr.lookup t (.map (some b)) (ek a) ok).run Tryd.prog w = .ok (if ok then .tuple #[v, .bool true] else v) w := by
  obtain ⟨es, clock, h1, h2, h3⟩ := h
  obtain ⟨j, hf⟩ := find_yes (w := w) K h2 h3 hn ha
  simp only [Instr.lookup, getObj, Sem.run_bind, run_underlying ht, Result.andThen_ok, Sem.run, h1, Sem.run_pure, K.check, hf]

theorem run_mapUpdate_new (K : KeyOK kt ek) (ht : Tryd.prog.underlying t = some (.map kt et)) (h : MapIs ek w b kvs) {a : α} (ha : a ∉ kvs.map (·.1)) (v : Value) :
    ∃ w', (Instr.mapUpdate t (.map (some b)) (ek a) v).run Tryd.prog w = .ok () w' ∧ MapIs ek w' b (kvs ++ [(a, v)]) ∧ w.grownBy w' (some b) := by
  obtain ⟨es, clock, h1, h2, h3⟩ := h
  have hf := K.find a es.toList (kvs.map (·.1)) w (by rw [h2, List.map_map]; rfl)
  rw [findSpec_none ha] at hf
  have hb := (Array.getElem?_eq_some_iff.1 h1).1
  refine ⟨{ w with heap := w.heap.setIfInBounds b (.map (es.push { key := ek a, val := v, born := clock }) (clock + 1)) }, ?_, ⟨es.push { key := ek a, val := v, born := clock }, clock + 1, ?_, ?_, ?_⟩, ⟨rfl, rfl, rfl, by simp, fun k hk hne => ?_⟩⟩
  · simp only [Instr.mapUpdate, getObj, setObj, Sem.run_bind, run_underlying ht, Result.andThen_ok, Sem.run, h1, Sem.run_pure, K.check, hf]
  · simp [hb]
  · simp [h2]
  · simp [h3]
  · have : ¬ b = k := fun e => hne (by rw [e])
    simp [Array.getElem?_setIfInBounds, this]
end

/-! ### at the operation, for the walk -/
section
variable {α : Type} [DecidableEq α] {ek : α → Value} {w : World} {b : Nat} {kvs : List (α × Value)} {t kt et : TypeId} {ops : Array Oper} {rest : List Oper} {o : Oper} {a : Act} {Q : Exit → Act → World → Prop}

theorem wpList_op {v : Value} (hg : o.guard = none) {s : Sem Value} (he : execOp a.eval o = (do pure (.value (← s)))) {w' : World} (hs : s.run Tryd.prog w = .ok v w') (h : wpList Tryd.prog ops Q rest (a.put o.dst v) w') : wpList Tryd.prog ops Q (o :: rest) a w := by
  refine wpList_plain hg fun K' hK' => ?_
  unfold Oper.wp
  rw [he]
  simp only [Sem.run_bind, hs, Result.andThen_ok, Sem.run_pure]
  exact hK' _ _ h
theorem wpList_opu (hg : o.guard = none) {s : Sem Unit} (he : execOp a.eval o = (do s; pure .skip)) {w' : World} (hs : s.run Tryd.prog w = .ok () w') (h : wpList Tryd.prog ops Q rest (a.put o.dst undef) w') : wpList Tryd.prog ops Q (o :: rest) a w := by
  refine wpList_plain hg fun K' hK' => ?_
  unfold Oper.wp
  rw [he]
  simp only [Sem.run_bind, hs, Result.andThen_ok, Sem.run_pure]
  exact hK' _ _ h

theorem map_lookup_no (hg : o.guard = none) (m x : Operand) (ok : Bool) (hop : o.op = .lookup t m x ok) (K : KeyOK kt ek) (ht : Tryd.prog.underlying t = some (.map kt et)) {z : Value} (hz : (zeroValue et).run Tryd.prog w = .ok z w)
    (hm : a.eval m = .map (some b)) (h : MapIs ek w b kvs) (k : α) (hx : a.eval x = ek k) (hk : k ∉ kvs.map (·.1)) (hK : wpList Tryd.prog ops Q rest (a.put o.dst (if ok then .tuple #[z, .bool false] else z)) w) : wpList Tryd.prog ops Q (o :: rest) a w :=
  wpList_op hg (by simp [execOp, hop, hm, hx]) (run_lookup_no K ht hz h hk ok) hK
theorem map_lookup_yes (hg : o.guard = none) (m x : Operand) (ok : Bool) (hop : o.op = .lookup t m x ok) (K : KeyOK kt ek) (ht : Tryd.prog.underlying t = some (.map kt et))
    (hm : a.eval m = .map (some b)) (h : MapIs ek w b kvs) (k : α) (v : Value) (hx : a.eval x = ek k) (hn : (kvs.map (·.1)).Nodup) (hk : (k, v) ∈ kvs) (hK : wpList Tryd.prog ops Q rest (a.put o.dst (if ok then .tuple #[v, .bool true] else v)) w) : wpList Tryd.prog ops Q (o :: rest) a w :=
  wpList_op hg (by simp [execOp, hop, hm, hx]) (run_lookup_yes K ht h hn hk ok) hK
theorem map_update_new (hg : o.guard = none) (m x y : Operand) (hop : o.op = .mapUpdate t m x y) (K : KeyOK kt ek) (ht : Tryd.prog.underlying t = some (.map kt et))
    (hm : a.eval m = .map (some b)) (h : MapIs ek w b kvs) (k : α) (v : Value) (hx : a.eval x = ek k) (hy : a.eval y = v) (hk : k ∉ kvs.map (·.1))
    (hK : ∀ w', MapIs ek w' b (kvs ++ [(k, v)]) → w.grownBy w' (some b) → wpList Tryd.prog ops Q rest (a.put o.dst undef) w') : wpList Tryd.prog ops Q (o :: rest) a w := by
  obtain ⟨w', h1, h2, h3⟩ := run_mapUpdate_new K ht h hk v
  exact wpList_opu hg (by simp [execOp, hop, hm, hx, hy]) h1 (hK w' h2 h3)

variable {F : Fence} {nF : Nat}
theorem wpListIn_op {v : Value} (hg : o.guard = none) (hd : ∀ c, o.op ≠ .defer c) {s : Sem Value} (ha : o.about Tryd.prog w a.eval = none) (he : execOp a.eval o = (do pure (.value (← s)))) {w' : World} (hs : s.run Tryd.prog w = .ok v w') (h : wpListIn F nF Tryd.prog ops Q rest (a.put o.dst v) w') : wpListIn F nF Tryd.prog ops Q (o :: rest) a w := by
  refine wpListIn_plain hg fun K' hK' => ?_
  unfold Oper.wpIn
  refine ⟨by simp [ha], ?_⟩
  rw [Oper.semAt_plain F _ _ hd, he]
  simp only [Sem.run_bind, hs, Result.andThen_ok, Sem.run_pure]
  exact hK' _ _ h
theorem wpListIn_opu (hg : o.guard = none) (hd : ∀ c, o.op ≠ .defer c) {s : Sem Unit} (ha : o.about Tryd.prog w a.eval = none) (he : execOp a.eval o = (do s; pure .skip)) {w' : World} (hs : s.run Tryd.prog w = .ok () w') (h : wpListIn F nF Tryd.prog ops Q rest (a.put o.dst undef) w') : wpListIn F nF Tryd.prog ops Q (o :: rest) a w := by
  refine wpListIn_plain hg fun K' hK' => ?_
  unfold Oper.wpIn
  refine ⟨by simp [ha], ?_⟩
  rw [Oper.semAt_plain F _ _ hd, he]
  simp only [Sem.run_bind, hs, Result.andThen_ok, Sem.run_pure]
  exact hK' _ _ h

theorem map_lookup_no_in (hg : o.guard = none) (m x : Operand) (ok : Bool) (hop : o.op = .lookup t m x ok) (K : KeyOK kt ek) (ht : Tryd.prog.underlying t = some (.map kt et)) {z : Value} (hz : (zeroValue et).run Tryd.prog w = .ok z w)
    (hm : a.eval m = .map (some b)) (h : MapIs ek w b kvs) (k : α) (hx : a.eval x = ek k) (hk : k ∉ kvs.map (·.1)) (hK : wpListIn F nF Tryd.prog ops Q rest (a.put o.dst (if ok then .tuple #[z, .bool false] else z)) w) : wpListIn F nF Tryd.prog ops Q (o :: rest) a w :=
  wpListIn_op hg (by rw [hop]; intro c h; cases h) (by simp [Oper.about, hop]) (by simp [execOp, hop, hm, hx]) (run_lookup_no K ht hz h hk ok) hK
theorem map_lookup_yes_in (hg : o.guard = none) (m x : Operand) (ok : Bool) (hop : o.op = .lookup t m x ok) (K : KeyOK kt ek) (ht : Tryd.prog.underlying t = some (.map kt et))
    (hm : a.eval m = .map (some b)) (h : MapIs ek w b kvs) (k : α) (v : Value) (hx : a.eval x = ek k) (hn : (kvs.map (·.1)).Nodup) (hk : (k, v) ∈ kvs) (hK : wpListIn F nF Tryd.prog ops Q rest (a.put o.dst (if ok then .tuple #[v, .bool true] else v)) w) : wpListIn F nF Tryd.prog ops Q (o :: rest) a w :=
  wpListIn_op hg (by rw [hop]; intro c h; cases h) (by simp [Oper.about, hop]) (by simp [execOp, hop, hm, hx]) (run_lookup_yes K ht h hn hk ok) hK
theorem map_update_new_in (hg : o.guard = none) (m x y : Operand) (hop : o.op = .mapUpdate t m x y) (K : KeyOK kt ek) (ht : Tryd.prog.underlying t = some (.map kt et))
    (hm : a.eval m = .map (some b)) (h : MapIs ek w b kvs) (k : α) (v : Value) (hx : a.eval x = ek k) (hy : a.eval y = v) (hk : k ∉ kvs.map (·.1))
    (hK : ∀ w', MapIs ek w' b (kvs ++ [(k, v)]) → w.grownBy w' (some b) → wpListIn F nF Tryd.prog ops Q rest (a.put o.dst undef) w') : wpListIn F nF Tryd.prog ops Q (o :: rest) a w := by
  obtain ⟨w', h1, h2, h3⟩ := run_mapUpdate_new K ht h hk v
  exact wpListIn_opu hg (by rw [hop]; intro c h; cases h) (by simp [Oper.about, hop]) (by simp [execOp, hop, hm, hx, hy]) h1 (hK w' h2 h3)
end

section
variable {w : World} {ops : Array Oper} {rest : List Oper} {o : Oper} {a : Act} {Q : Exit → Act → World → Prop} {F : Fence} {nF : Nat}
/-- a whole array or struct is stored into its variable, inside a fence -/
theorem store_row_in (hgd : o.guard = none) (ty : TypeId) (x y : Operand) (ho : o.op = .store ty x y)
    (g : Nat) (cells : Array Value) (hx : a.eval x = .pointer (some ⟨g, 0, none⟩)) (hy : a.eval y = .agg cells)
    (t : TypeId) (old : Array Value) (hg : w.heap[g]? = some (.cells old t (0, 0))) (hi : (Tryd.prog.info? ty).map (·.size) = some cells.size)
    (hold : old.size = cells.size) (h1 : cells.all (·.oneCell') = true)
    (h : wpListIn F nF Tryd.prog ops Q rest (a.put o.dst undef) (w.setRow g cells)) : wpListIn F nF Tryd.prog ops Q (o :: rest) a w :=
  wpListIn_opu hgd (by rw [ho]; intro c h; cases h) (by simp [Oper.about, ho]) (s := Instr.storeAt ty (.pointer (some ⟨g, 0, none⟩)) (.agg cells)) (by simp [execOp, ho, hx, hy])
    (by simp only [Instr.storeAt, Instr.sureAddr, Sem.run_bind, Sem.run_pure, Result.andThen_ok, run_storeVar_row w g t ty old cells hg hi hold h1]) h
end
theorem setRow_old {w : World} {k i : Nat} {cs : Array Value} {o : Option Obj} (h : w.heap[k]? = o) (hne : k ≠ i) : (w.setRow i cs).heap[k]? = o := (setRow_other w i k cs hne).trans h
theorem setRow_same {w : World} {k : Nat} {cs old : Array Value} {t : TypeId} (h : w.heap[k]? = some (.cells old t (0, 0))) : (w.setRow k cs).heap[k]? = some (.cells cs t (0, 0)) := setRow_heap w k old cs t _ h
theorem keeps_setRow {w : World} {k : Nat} {cs old : Array Value} {t : TypeId} (h : w.heap[k]? = some (.cells old t (0, 0))) : KeepsOthers w (w.setRow k cs) :=
  ⟨by simp [World.setRow], fun i o hi ho => (setRow_other w k i cs (by rintro rfl; rw [h] at hi; cases hi; cases ho)).trans hi⟩

theorem run_findAsking {α : Type} [DecidableEq α] {ek : α → Value} {kt : TypeId} (heq : ∀ a b w, (Op.equal kt (ek a) (ek b)).run Tryd.prog w = .ok (decide (a = b)) w) (a : α) :
    ∀ (es : List MapEntry) (ks : List α) (i : Nat) (w : World), es.map (·.key) = ks.map ek → (Instr.findAsking kt (ek a) es i).run Tryd.prog w = .ok (findSpec a ks es i) w
  | [], [], _, _, _ => by simp [Instr.findAsking, findSpec]
  | [], k :: ks, _, _, h => by simp at h
  | e :: es, [], _, _, h => by simp at h
  | e :: es, k :: ks, i, w, h => by
    simp only [List.map_cons, List.cons.injEq] at h
    have ih := run_findAsking heq a es ks (i + 1) w h.2
    simp only [Instr.findAsking, Sem.run_bind, h.1, heq, Result.andThen_ok, findSpec]
    by_cases hk : a = k
    · simp [hk]
    · simp only [hk, decide_false, if_false, Bool.false_eq_true]; exact ih
end Go.Proofs.YtmagkcioplcidabDoor

/- ply: the number of the chains that end at a point. -/
set_option linter.unusedVariables false
set_option linter.unusedSimpArgs false
namespace Go.Proofs.YtmagkcioplcidabDoor
open Go.RowKit Go.Shelf
attribute [local go_sem] Oper.semAt_some

/-! ### plain: a sum over the points of a set -/
theorem sumTo_list (h : Nat → Int) : ∀ n, sumTo h n = ((List.range n).map h).sum
  | 0 => rfl
  | n + 1 => by unfold sumTo; rw [sumTo_list h n, List.range_succ, List.map_append, List.sum_append]; simp
theorem sumTo_far {h : Nat → Int} {n : Nat} : ∀ d, (∀ i, n ≤ i → h i = 0) → sumTo h (n + d) = sumTo h n
  | 0, _ => rfl
  | d + 1, hz => by
    show sumTo h (n + d) + h (n + d) = sumTo h n
    rw [sumTo_far d hz, hz _ (by omega)]; omega
theorem filter_sum (P : Nat → Bool) (h : Nat → Int) : ∀ l : List Nat, ((l.filter P).map h).sum = (l.map fun q => if P q = true then h q else 0).sum
  | [] => rfl
  | a :: l => by
    by_cases hp : P a = true
    · rw [List.filter_cons_of_pos hp]; simp [hp, filter_sum P h l]
    · rw [List.filter_cons_of_neg hp]; simp [hp, filter_sum P h l]
theorem sumTo_bits {S n : Nat} (hn : n ≤ 6) (hS : S < 2 ^ n) (h : Nat → Int) : sumTo (fun q => if S.testBit q = true then h q else 0) n = ((bitsOf S).map h).sum := by
  unfold bitsOf
  rw [filter_sum, ← sumTo_list, show 6 = n + (6 - n) by omega]
  exact (sumTo_far _ (fun i hi => by rw [bit_big hS hi]; simp)).symm

def dnV (cs : List Nat) (p : Nat) : Int := dnF cs 64 p
theorem dnV_step {cs : List Nat} (hs : spaceB cs = true) (hp : plainB cs = true) (hc : Codes cs) {p : Nat} (hpn : p < cs.length) : dnV cs p = 1 - ((bitsOf (diff (cell cs p) (2 ^ p))).map (dnV cs)).sum := by
  have h1 := dn_stable hs hp 64 p hpn (cell_64 hc p)
  unfold dnV
  rw [← h1]
  show 1 - sumTo (fun q => if ltP cs q p = true then dnF cs 64 q else 0) cs.length = _
  congr 1
  rw [← sumTo_bits hc.2.1 (diff_lt (hc.2.2 p))]
  refine sumTo_same _ fun q _ => ?_
  have : ltP cs q p = (diff (cell cs p) (2 ^ p)).testBit q := by
    rw [Bool.eq_iff_iff, without_bit]
    unfold ltP
    rw [Bool.and_eq_true, decide_eq_true_eq]
    exact And.comm
  rw [this]
theorem wrap_sub (a b : Int) : wrap64 (wrap64 a - wrap64 b) = wrap64 (a - b) := by unfold wrap64; omega
theorem wrap_add (a b : Int) : wrap64 (wrap64 a + wrap64 b) = wrap64 (a + b) := by unfold wrap64; omega

/-! ### the walk -/
def intKey (n : Int) : Value := .int .i64 n
theorem findNow_int (q : IntKind) (a : Int) : ∀ (es : List MapEntry) (ks : List Int) (i : Nat), es.map (·.key) = ks.map (Value.int q) → Instr.findNow (.int q) (.int q a) es i = some (findSpec a ks es i)
  | [], [], _, _ => rfl
  | e :: es, k :: ks, i, h => by
    simp only [List.map_cons, List.cons.injEq] at h
    obtain ⟨h1, h2⟩ := h
    have ih := findNow_int q a es ks (i + 1) h2
    by_cases hk : a = k
    · subst hk; simp [Instr.findNow, Instr.sameNow, h1, findSpec]
    · have hk2 : (a == k) = false := by simpa using hk
      simp [Instr.findNow, Instr.sameNow, h1, findSpec, hk, hk2, ih]
  | [], k :: ks, _, h => by simp at h
  | e :: es, [], _, h => by simp at h
theorem key_int : KeyOK 3 intKey where
  check := fun a em w => by kernel_rfl
  find := fun a es ks w h => by
    unfold Instr.findKey
    rw [Sem.run_bind, run_underlying Tryd.underlying3]
    simp only [Result.andThen_ok]
    rw [show Instr.findNow (.int .i64) (intKey a) es 0 = some (findSpec a ks es 0) from findNow_int .i64 a es ks 0 h]
    rfl

/-- all but the map's block is as it was -/
structure KeepM (bm : Nat) (W W' : World) : Prop where
  os : W'.os = W.os
  tape : W'.tape = W.tape
  output : W'.output = W.output
  size : W.heap.size ≤ W'.heap.size
  block : ∀ k, k < W.heap.size → k ≠ bm → W'.heap[k]? = W.heap[k]?
theorem KeepM.refl (bm : Nat) (W : World) : KeepM bm W W := ⟨rfl, rfl, rfl, Nat.le_refl _, fun _ _ _ => rfl⟩
theorem KeepM.trans {bm : Nat} {A B C : World} (h : KeepM bm A B) (k : KeepM bm B C) : KeepM bm A C := ⟨k.os.trans h.os, k.tape.trans h.tape, k.output.trans h.output, Nat.le_trans h.size k.size, fun i hi hne => (k.block i (Nat.lt_of_lt_of_le hi h.size) hne).trans (h.block i hi hne)⟩
theorem KeepM.of_below {bm : Nat} {A B : World} (h : Below A.heap.size A B) : KeepM bm A B := ⟨h.os, h.tape, h.output, h.size, fun k hk _ => h.block k hk⟩
theorem KeepM.of_grown {bm : Nat} {A B : World} (h : A.grownBy B (some bm)) : KeepM bm A B := ⟨h.os, h.tape, h.output, h.size, fun k hk hne => h.block k hk (fun e => hne (Option.some.inj e))⟩
theorem KeepM.below {bm B : Nat} {W W' : World} (h : KeepM bm W W') (hB : B ≤ bm) (hW : B ≤ W.heap.size) : Below B W W' := ⟨h.os, h.tape, h.output, h.size, fun k hk => h.block k (by omega) (by omega)⟩

structure CntW (cs : List Nat) (bm Bk Bx Bf : Nat) (W : World) (kvs : List (Int × Value)) : Prop where
  k : W.heap[Bk]? = some (.cells #[.map (some bm)] 60)
  m : MapIs intKey W bm kvs
  nd : (kvs.map (·.1)).Nodup
  vals : ∀ x ∈ kvs, ∃ q : Nat, q < cs.length ∧ x = ((q : Int), .int .i64 (wrap64 (dnV cs q)))
  x : SpF W Bx cs.length (cell cs)
  f : W.heap[Bf]? = some (.cells #[.func (.func 30) #[] #[.pointer (some ⟨Bk, 0, none⟩), .pointer (some ⟨Bx, 0, none⟩), .pointer (some ⟨Bf, 0, none⟩)]] 61)
  tab : Tab W
theorem CntW.to {cs : List Nat} {bm Bk Bx Bf : Nat} {W W' : World} {kvs : List (Int × Value)} (h : CntW cs bm Bk Bx Bf W kvs) (hc : ∀ (k : Nat) (c : Array Value) (t : TypeId) (fr : Nat × Nat), W.heap[k]? = some (.cells c t fr) → W'.heap[k]? = some (.cells c t fr)) (hm : W'.heap[bm]? = W.heap[bm]?) (hg : W'.heap[1]? = W.heap[1]?) : CntW cs bm Bk Bx Bf W' kvs :=
  ⟨hc _ _ _ _ h.k, h.m.of_block hm, h.nd, h.vals, hc _ _ _ _ h.x, hc _ _ _ _ h.f, h.tab.block hg⟩
theorem CntW.below {cs : List Nat} {bm Bk Bx Bf : Nat} {W W' : World} {kvs : List (Int × Value)} (h : CntW cs bm Bk Bx Bf W kvs) (hb : Below W.heap.size W W') : CntW cs bm Bk Bx Bf W' kvs := h.to (fun k c t fr hk => (hb.block k (heap_lt hk)).trans hk) (hb.block _ h.m.lt) (hb.block _ h.tab.lt)
theorem CntW.ne {cs : List Nat} {bm Bk Bx Bf : Nat} {W : World} {kvs : List (Int × Value)} (h : CntW cs bm Bk Bx Bf W kvs) {k : Nat} {c : Array Value} {t : TypeId} {fr : Nat × Nat} (hk : W.heap[k]? = some (.cells c t fr)) : k ≠ bm := fun e => by
  obtain ⟨es, clock, h1, _⟩ := h.m
  rw [e, h1] at hk; cases hk
theorem CntW.setCell {cs : List Nat} {bm Bk Bx Bf : Nat} {W : World} {kvs : List (Int × Value)} (h : CntW cs bm Bk Bx Bf W kvs) {b : Nat} (h1 : b ≠ bm) (h2 : b ≠ Bk) (h3 : b ≠ Bx) (h4 : b ≠ Bf) (h5 : b ≠ 1) (v : Value) : CntW cs bm Bk Bx Bf (W.setCell ⟨b, 0, none⟩ v) kvs :=
  ⟨set_other h.k (Ne.symm h2), h.m.of_block (heap_setCell_other _ _ _ _ (Ne.symm h1)), h.nd, h.vals, h.x.other (Ne.symm h3), set_other h.f (Ne.symm h4), h.tab.block (heap_setCell_other _ _ _ _ (Ne.symm h5))⟩
/-- one entry more -/
theorem CntW.add {cs : List Nat} {bm Bk Bx Bf : Nat} {W W' : World} {kvs : List (Int × Value)} (h : CntW cs bm Bk Bx Bf W kvs) (hg : W.grownBy W' (some bm)) {p : Nat} (hp : p < cs.length) (hno : (p : Int) ∉ kvs.map (·.1)) (hm : MapIs intKey W' bm (kvs ++ [((p : Int), .int .i64 (wrap64 (dnV cs p)))])) (hng : 1 ≠ bm) :
    CntW cs bm Bk Bx Bf W' (kvs ++ [((p : Int), .int .i64 (wrap64 (dnV cs p)))]) := by
  have old : ∀ {k : Nat} {c : Array Value} {t : TypeId} {fr : Nat × Nat}, W.heap[k]? = some (.cells c t fr) → W'.heap[k]? = some (.cells c t fr) := fun {k c t fr} hk => (hg.block k (heap_lt hk) (fun e => h.ne hk (Option.some.inj e))).trans hk
  refine ⟨old h.k, hm, ?_, fun x hx => ?_, old h.x, old h.f, h.tab.block (hg.block _ h.tab.lt (fun e => hng (Option.some.inj e)))⟩
  · rw [List.map_append, List.nodup_append]
    exact ⟨h.nd, by simp, fun a ha b hb => by simp at hb; subst hb; rintro rfl; exact hno ha⟩
  · rcases List.mem_append.1 hx with hx | hx
    · exact h.vals x hx
    · exact ⟨p, hp, List.mem_singleton.1 hx⟩

/-- what keys have come belong to points of smaller cells -/
def NewKeys (cs : List Nat) (kvs kvs' : List (Int × Value)) (b : Nat) : Prop := ∀ a ∈ kvs'.map (·.1), a ∈ kvs.map (·.1) ∨ ∃ q : Nat, a = (q : Int) ∧ cell cs q < b
theorem NewKeys.refl (cs : List Nat) (kvs : List (Int × Value)) (b : Nat) : NewKeys cs kvs kvs b := fun a h => .inl h
theorem NewKeys.trans {cs : List Nat} {k1 k2 k3 : List (Int × Value)} {b c : Nat} (h : NewKeys cs k1 k2 b) (k : NewKeys cs k2 k3 c) (hcb : c ≤ b) : NewKeys cs k1 k3 b := fun a ha => by
  rcases k a ha with h1 | ⟨q, h1, h2⟩
  · exact h a h1
  · exact .inr ⟨q, h1, by omega⟩
set_option maxRecDepth 100000 in
set_option maxHeartbeats 3200000 in
theorem count_any (cs : List Nat) (hs : spaceB cs = true) (hp : plainB cs = true) (hc : Codes cs) (bm Bk Bx Bf : Nat) (hng : 1 ≠ bm) : ∀ (k p : Nat) (W : World) (kvs : List (Int × Value)), cell cs p < k → p < cs.length → CntW cs bm Bk Bx Bf W kvs →
    Calls Tryd.prog 30 #[.int .i64 p, .pointer (some ⟨Bk, 0, none⟩), .pointer (some ⟨Bx, 0, none⟩), .pointer (some ⟨Bf, 0, none⟩)] W fun e W' => e = .returned (.int .i64 (wrap64 (dnV cs p))) ∧ (∃ kvs', CntW cs bm Bk Bx Bf W' kvs' ∧ NewKeys cs kvs kvs' (cell cs p + 1)) ∧ KeepM bm W W' := by
  intro k
  induction k with
  | zero => intro p W kvs h; omega
  | succ k ih =>
    intro p W kvs hk hpn hcw
    have hn6 := hc.2.1
    have c0 := cell_of hcw.k (j := 0) rfl
    by_cases hin : (p : Int) ∈ kvs.map (·.1)
    · have hv : ((p : Int), Value.int .i64 (wrap64 (dnV cs p))) ∈ kvs := by
        obtain ⟨x, hx, he⟩ := List.mem_map.1 hin
        obtain ⟨q, hq, rfl⟩ := hcw.vals x hx
        have he' : (q : Int) = (p : Int) := he
        have : q = p := by omega
        subst this; exact hx
      have HV := Lib.hid hv
      have HIN := Lib.hid hin
      have HC := Lib.hid hcw
      clear hv hin hcw hs hp ih
      refine (callsIn_wide (n := 20)).1 ?_
      refine callsIn_of_wp_marks Tryd.func30 rfl trivial ?_ rfl
      simp only [Tryd.ntmps30, List.size_toArray, List.length_cons, List.length_nil, Nat.reduceAdd, Nat.reduceSub, Array.replicate_succ, Array.replicate_zero, List.push_toArray, List.append_toArray, List.nil_append, List.cons_append]
      gi_wp2_with (gi_at_lookup; refine map_lookup_yes_in rfl _ _ _ rfl key_int Tryd.underlying60 rfl HC.out.m (p : Int) _ rfl HC.out.nd HV.out ?_)
      refine leave_marks (B := W.heap.size) [] W.heap.size _ trivial fun w' hs => ?_
      refine ⟨_, results_tmp rfl _ _ _, rfl, ⟨kvs, HC.out.below hs.below, NewKeys.refl _ _ _⟩, KeepM.of_below hs.below⟩
    · have HIN := Lib.hid hin
      have hstep := dnV_step hs hp hc hpn
      have hpn6 : p < 6 := by omega
      have h64 := cell_64 hc p
      have hd64 : diff (cell cs p) (2 ^ p) < 64 := diff_lt (k := 6) h64
      have hpts : ∀ x, (diff (cell cs p) (2 ^ p)).testBit x = true → x < cs.length ∧ cell cs x < k := fun x hx => by
        obtain ⟨h1, h2⟩ := (without_bit _ _ _).1 hx
        have hxn := set_lt (hc.2.2 p) h1
        have hl := lt_less hs hp hxn hpn (by unfold ltP; rw [Bool.and_eq_true, decide_eq_true_eq]; exact ⟨h2, h1⟩)
        exact ⟨hxn, by omega⟩
      have hptl : ∀ x, (diff (cell cs p) (2 ^ p)).testBit x = true → cell cs x + 1 ≤ cell cs p := fun x hx => by
        obtain ⟨h1, h2⟩ := (without_bit _ _ _).1 hx
        exact lt_less hs hp (set_lt (hc.2.2 p) h1) hpn (by unfold ltP; rw [Bool.and_eq_true, decide_eq_true_eq]; exact ⟨h2, h1⟩)
      have HPTL := Lib.hid hptl
      have HSTEP := Lib.hid hstep
      have HPTS := Lib.hid hpts
      have HC := Lib.hid hcw
      have hbm : bm < W.heap.size := hcw.m.lt
      have hsh := shl_num p hpn6
      have hpw := pow_lt64 hpn6
      have hz : (zeroValue 3).run Tryd.prog W = .ok (.int .i64 0) W := by kernel_rfl
      have HZ := Lib.hid hz
      have IH := Lib.hid ih
      have hdf : bits .andNot .u64 (cell cs p : Int) ((2 : Int) ^ p) = ((diff (cell cs p) (2 ^ p) : Nat) : Int) := by
        have := u64_andNot (cell cs p) (2 ^ p) (by omega) (by omega)
        rwa [pow_int] at this
      clear hin hcw hs hp ih hstep hpts hptl hc hz
      refine (callsIn_wide (n := 20)).1 ?_
      refine callsIn_of_wp_marks Tryd.func30 rfl trivial ?_ rfl
      simp only [Tryd.ntmps30, List.size_toArray, List.length_cons, List.length_nil, Nat.reduceAdd, Nat.reduceSub, Array.replicate_succ, Array.replicate_zero, List.push_toArray, List.append_toArray, List.nil_append, List.cons_append]
      gi_wp2_with (gi_at_lookup; refine map_lookup_no_in rfl _ _ _ rfl key_int Tryd.underlying60 HZ.out rfl HC.out.m (p : Int) rfl HIN.out ?_)
      have hal : Below W.heap.size W (W.alloc (.cells #[.int .i64 1] 3)) := (Below.refl _ _).alloc (Nat.le_refl _) _
      have s8 := heap_alloc_new W (.cells #[.int .i64 1] 3)
      have hc1 := HC.out.below hal
      have hsz1 : (W.alloc (.cells #[.int .i64 1] 3)).heap.size = W.heap.size + 1 := by simp
      generalize hW1 : World.alloc W _ = W1 at *
      clear hW1
      have q1 := hc1.x.cell (p := p) hpn6
      have p0 : (0 : Int) ≤ (p : Int) := by omega
      have p6 : (p : Int) < 6 := by omega
      have HAL := Lib.hid hal
      have HC1 := Lib.hid hc1
      have HS8 := Lib.hid s8
      clear hal hc1 s8 c0
      refine region_then 7 rfl rfl rfl (by kernel_rfl) (by kernel_rfl) (by kernel_rfl) (by kernel_rfl) (by kernel_rfl) (by kernel_rfl) ?_
      dsimp only [List.dropLast]
      repeat (gi_big_quiet_step (fail))
      refine wpQuietIn_nil ?_
      intro _ hw'
      obtain ⟨nq, hw''⟩ := hw'
      subst hw''
      have hdr := below_drewN W1 nq
      have hc2 := HC1.out.below hdr
      have s8 := (heap_drewN W1 nq _).trans HS8.out
      have hb2 := below_to HAL.out HAL.out.size hdr
      have hsz2 := size_drewN W1 nq
      rw [hsz1] at hsz2
      generalize hW2 : W1.drewN nq = W2 at *
      clear hW2 hdr q1 HAL HC1 HS8 hsz1
      go_simp
      refine ⟨trivial, (callsIn_wide.2 (points_any (diff (cell cs p) (2 ^ p)) _)).mono ?_⟩
      rintro e w2 ⟨rfl, rfl⟩
      have hal : Below W2.heap.size W2 (W2.alloc (.cells #[.int .u64 (diff (cell cs p) (2 ^ p) : Nat)] 32)) := (Below.refl _ _).alloc (Nat.le_refl _) _
      have hBs := heap_alloc_new W2 (.cells #[.int .u64 (diff (cell cs p) (2 ^ p) : Nat)] 32)
      have hc3 := hc2.below hal
      have t8 := (hal.block _ (heap_lt s8)).trans s8
      have hb3 := below_to hb2 hb2.size hal
      have hsz3 : (W2.alloc (.cells #[.int .u64 (diff (cell cs p) (2 ^ p) : Nat)] 32)).heap.size = W.heap.size + 2 := by simp [hsz2]
      rw [hsz2] at hBs ⊢
      generalize hW3 : World.alloc W2 _ = W3 at *
      clear hW3 hal hsz2 hc2 s8 hb2
      gi_wp2_with fail
      have lk := heap_lt HC.out.k
      have lx := HC.out.x.lt
      have lf := heap_lt HC.out.f
      have lt := HC.out.tab.lt
      refine range_pts (gf := 33) (Bs := W.heap.size + 1) (s := diff (cell cs p) (2 ^ p)) rfl (enters_of Tryd.func33 (by kernel_rfl) rfl)
        (points_given (diff (cell cs p) (2 ^ p)) (W.heap.size + 1) hd64 19 (by omega) W3 (by omega)) hBs rfl
        (fun pre V => (∃ kvs', CntW cs bm Bk Bx Bf V kvs' ∧ NewKeys cs kvs kvs' (cell cs p)) ∧ V.heap[W.heap.size]? = some (.cells #[.int .i64 (wrap64 (1 - (pre.map (dnV cs)).sum))] 3) ∧ KeepM bm W V ∧ W.heap.size + 2 ≤ V.heap.size)
        (fun c pre W => False) ?a1 ?hI (fun c s W W' row h _ _ => h) ?hIB (fun pre W h => h.1.elim fun _ h => h.1.tab) ⟨⟨_, hc3, NewKeys.refl _ _ _⟩, by rw [show wrap64 (1 - (([] : List Nat).map (dnV cs)).sum) = 1 by simp [wrap64]]; exact t8, KeepM.of_below hb3, by omega⟩ ?assign ?body ?done ?stop
      case assign =>
        intro l x W K hK
        gi_wp2
        exact hK
      case hI =>
        rintro s V V' row ⟨⟨kvs', h1, hnk⟩, h2, h3, h4⟩ hg hr
        refine ⟨⟨kvs', h1.to (fun k c t fr hk2 => own_cells hg hr hk2) (hg.block _ h1.m.lt (fun e => by have := (hr _ e.symm).1; omega)) (hg.block _ h1.tab.lt (fun e => by have := (hr _ e.symm).1; omega)), hnk⟩, own_block hg hr (by omega) h2, ⟨hg.os.trans h3.os, hg.tape.trans h3.tape, hg.output.trans h3.output, Nat.le_trans h3.size hg.size, fun k hk2 hne => ?_⟩, Nat.le_trans h4 hg.size⟩
        exact (hg.block k (Nat.lt_of_lt_of_le hk2 h3.size) (fun e => by have := (hr _ e.symm).1; omega)).trans (h3.block k hk2 hne)
      case hIB =>
        rintro s V v ⟨⟨kvs', h1, hnk⟩, h2, h3, h4⟩
        refine ⟨⟨kvs', h1.setCell (by omega) (by omega) (by omega) (by omega) (by omega) v, hnk⟩, set_other h2 (by omega), ⟨h3.os, h3.tape, h3.output, by simpa using h3.size, fun k hk2 hne => ?_⟩, by simpa using h4⟩
        exact (heap_setCell_other _ _ _ _ (by show k ≠ W.heap.size + 1; omega)).trans (h3.block k hk2 hne)
      case body =>
        rintro l pre x V hl ⟨⟨kvs', h1, hnk⟩, h2, h3, h4⟩ hpx
        obtain ⟨hxb, hx6⟩ := pre_bit hd64 hpx
        obtain ⟨hxn, hxk⟩ := HPTS.out x hxb
        have HXP : Hid (cell cs x + 1 ≤ cell cs p) := Lib.hid (HPTL.out x hxb)
        have hsum : wrap64 (wrap64 (1 - (pre.map (dnV cs)).sum) - wrap64 (dnV cs x)) = wrap64 (1 - ((pre ++ [x]).map (dnV cs)).sum) := by
          rw [wrap_sub, List.map_append, List.sum_append]
          congr 1
          simp only [List.map_cons, List.map_nil, List.sum_cons, List.sum_nil]
          omega
        have HSUM := Lib.hid hsum
        clear hsum
        gi_wp2_with fail
        refine region_thenC (C := fun V' => (∃ kv, CntW cs bm Bk Bx Bf V' kv ∧ NewKeys cs kvs kv (cell cs p)) ∧ KeepM bm V V') 5 rfl rfl rfl (by kernel_rfl) (by kernel_rfl) (by kernel_rfl) (by kernel_rfl) (by kernel_rfl) (by kernel_rfl) ⟨⟨_, h1.below (Below.refl _ _).drew, hnk⟩, KeepM.of_below (Below.refl _ _).drew⟩ ?_
        dsimp only [List.dropLast]
        have w8 : ∀ V', KeepM bm V V' → V'.heap[W.heap.size]? = some (.cells #[.int .i64 (wrap64 (1 - (pre.map (dnV cs)).sum))] 3) := fun V' hk => (hk.block _ (by omega) (by omega)).trans h2
        refine quiet_value (.int .i64 (wrap64 (1 - (pre.map (dnV cs)).sum))) rfl (fun w => rfl) (fun V' hC => ?_) ?_
        · have c := cell_of (w8 V' hC.2) (j := 0) rfl
          clear w8 hC
          go_simp
        dsimp only [Act.put, List.setIfInBounds_toArray, List.set_cons_zero, List.set_cons_succ]
        refine quiet_value (.func (.func 30) #[] #[.pointer (some ⟨Bk, 0, none⟩), .pointer (some ⟨Bx, 0, none⟩), .pointer (some ⟨Bf, 0, none⟩)]) rfl (fun w => rfl) (fun V' hC => ?_) ?_
        · obtain ⟨kv, hq, hqk⟩ := hC.1
          have c := cell_of hq.f (j := 0) rfl
          clear w8 hC hq
          go_simp
        dsimp only [Act.put, List.setIfInBounds_toArray, List.set_cons_zero, List.set_cons_succ]
        refine quiet_value (.int .i64 x) rfl (fun w => rfl) (fun V' hC => ?_) ?_
        · clear w8 hC
          go_simp
        dsimp only [Act.put, List.setIfInBounds_toArray, List.set_cons_zero, List.set_cons_succ]
        refine quiet_call (.int .i64 (wrap64 (dnV cs x))) 30 #[.int .i64 x, .pointer (some ⟨Bk, 0, none⟩), .pointer (some ⟨Bx, 0, none⟩), .pointer (some ⟨Bf, 0, none⟩)] rfl (fun _ => trivial) (fun h => by simp [Fence.wide, Fence.inRound] at h) (fun V' hC => ?_) (fun V' hC => ?_) ?_
        · clear w8 hC
          go_simp
        · obtain ⟨kv, hq, hqk⟩ := hC.1
          exact (callsIn_wide.2 (IH.out x V' kv hxk hxn hq)).mono fun e V'' h => ⟨h.1, ⟨h.2.1.choose, h.2.1.choose_spec.1, hqk.trans h.2.1.choose_spec.2 (HXP.out)⟩, hC.2.trans h.2.2⟩
        dsimp only [Act.put, List.setIfInBounds_toArray, List.set_cons_zero, List.set_cons_succ]
        refine quiet_value (.int .i64 (wrap64 (wrap64 (1 - (pre.map (dnV cs)).sum) - wrap64 (dnV cs x)))) rfl (fun w => rfl) (fun V' hC => ?_) ?_
        · clear w8 hC
          go_simp
          rw [IntKind.wrap_i64]; unfold wrap64; rfl
        dsimp only [Act.put, List.setIfInBounds_toArray, List.set_cons_zero, List.set_cons_succ]
        refine wpQuietIn_nil fun V' hC => ?_
        have c8 := w8 V' hC.2
        obtain ⟨kv, hq, hqk⟩ := hC.1
        have hkk := hC.2
        have c := cell_of c8 (j := 0) rfl
        have f8 := free_of c8 0
        rw [HSUM.out]
        have C8 := Lib.hid c8
        have HQ := Lib.hid hq
        clear w8 hC hq c8
        go_simp
        have e : wrap64 (1 - ((pre.map (dnV cs)).sum + dnV cs x)) = wrap64 (1 - ((pre ++ [x]).map (dnV cs)).sum) := by simp
        have hlt1 : W.heap.size + 1 < V.heap.size := by omega
        refine ⟨KeepsFrom.trans ⟨hkk.size, fun k o hB hk2 _ => (hkk.block k (heap_lt hk2) (by omega)).trans hk2⟩ (keeps_set _ _ _ _ _), SameAt.setCell (hkk.block _ hlt1 (by omega)) (by omega) _, ⟨kv, HQ.out.setCell (by omega) (by omega) (by omega) (by omega) (by omega) _, hqk⟩, ?_, ?_, ?_⟩
        · rw [← e]; exact set_same C8.out
        · have hk3 := h3.trans hkk
          refine ⟨hk3.os, hk3.tape, hk3.output, by simpa using hk3.size, fun k hk2 hne => ?_⟩
          exact (heap_setCell_other _ _ _ _ (by show k ≠ W.heap.size; omega)).trans (hk3.block k hk2 hne)
        · have := hkk.size
          simp; omega
      case done =>
        rintro D V hD ⟨⟨kvs', h1, hnk⟩, h2, h3, h4⟩ hK
        have hno : (p : Int) ∉ kvs'.map (·.1) := fun h => by
          rcases hnk _ h with h | ⟨q, h, hq⟩
          · exact HIN.out h
          · have : q = p := by omega
            subst this; omega
        rw [← HSTEP.out] at h2
        have c := cell_of h2 (j := 0) rfl
        have ck := cell_of h1.k (j := 0) rfl
        have HNO := Lib.hid hno
        have H1 := Lib.hid h1
        have H3 := Lib.hid h3
        clear h1 h2 h3 hno
        gi_wp2_with (first
          | (gi_at_mapUpdate; refine map_update_new_in rfl _ _ _ rfl key_int Tryd.underlying60 rfl H1.out.m (p : Int) (.int .i64 (wrap64 (dnV cs p))) rfl rfl HNO.out ?_; intro V2 hm2 hg2; have H2 := Lib.hid (H1.out.add hg2 hpn HNO.out hm2 hng); have ck2 := cell_of H2.out.k (j := 0) rfl)
          | (gi_at_lookup; refine map_lookup_yes_in rfl _ _ _ rfl key_int Tryd.underlying60 rfl H2.out.m (p : Int) (.int .i64 (wrap64 (dnV cs p))) rfl H2.out.nd (by simp) ?_))
        have HK2 : V2.heap[D]? = _ := (hg2.block _ (heap_lt hK) (fun e => by have h0 := Option.some.inj e; subst h0; have := HC.out.m.lt; omega)).trans hK
        refine leave_marks (B := W.heap.size) _ (D+1) V2 (Marks.add (U := W.heap.size) (ds := []) trivial (by omega) (by omega) HK2) fun w' hs => ?_
        have hk3 := H3.out.trans (KeepM.of_grown hg2)
        have hsm : KeepM bm W w' := ⟨hs.below.os.trans hk3.os, hs.below.tape.trans hk3.tape, hs.below.output.trans hk3.output, Nat.le_trans hk3.size hs.below.size, fun k hk2 hne => (hs.below.block k hk2).trans (hk3.block k hk2 hne)⟩
        refine ⟨_, results_tmp rfl _ _ _, rfl, ⟨_, H2.out.to hs.keep (hs.below.block _ HC.out.m.lt) (hs.below.block _ HC.out.tab.lt), fun a ha => ?_⟩, hsm⟩
        rw [List.map_append, List.mem_append] at ha
        rcases ha with ha | ha
        · rcases hnk a ha with h | ⟨q, h5, h6⟩
          · exact .inl h
          · exact .inr ⟨q, h5, by omega⟩
        · exact .inr ⟨p, by simpa using ha, by omega⟩
      case stop =>
        rintro D c pre W hD hpre h
        exact h.elim
end Go.Proofs.YtmagkcioplcidabDoor

/- ply: Chains. -/
set_option linter.unusedVariables false
set_option linter.unusedSimpArgs false
namespace Go.Proofs.YtmagkcioplcidabDoor
open Go.RowKit Go.Shelf
attribute [local go_sem] Oper.semAt_some

set_option maxRecDepth 100000 in
set_option maxHeartbeats 1600000 in
theorem Chains_yes (v : Value) (cs : List Nat) (w : World) (hr : Reads w v (ofNats cs)) (hc : Codes cs) (hsp : spaceB cs = true) (hp : plainB cs = true) (hT : Tab w) :
    Calls Tryd.prog 17 #[v] w fun e w' => e = .returned (.tuple #[.int .i64 (wrap64 (sumTo (dnV cs) cs.length)), .int .i64 0]) ∧ Below w.heap.size w w' := by
  have hr0 := hr
  obtain ⟨a, cap, rfl, _, _, _⟩ := hr.open
  clear hr
  have hn6 := hc.2.1
  have hmm := @run_makeMap Tryd.prog
  have HP : Hid (plainB cs = true) := Lib.hid hp
  have HS := Lib.hid hsp
  have HC := Lib.hid hc
  clear hp
  go_enter Tryd.func17, Tryd.ntmps17
  go_wp2_with fail
  refine (newSpace_yes _ cs _ hr0 hc hsp hT).mono ?_
  clear hsp hc
  rintro e w1 ⟨rfl, hb1⟩
  obtain ⟨hs1, hb2⟩ := lay_sp hb1 cs.length (cell cs)
  have hT2 := hT.below hb2
  go_wp2_with fail
  generalize hW : World.alloc w1 _ = W at *
  generalize hX : w1.heap.size = Bx at *
  clear hW hX
  obtain ⟨d0, d1, d2, d3, d4, d5, d6⟩ := hs1.cells
  have HS1 := Lib.hid hs1
  clear hs1
  go_wp2_with fail
  refine (isPlain_any cs _ HC.out).mono ?_
  rintro e w2 ⟨rfl, hb3⟩
  rw [HP.out]
  have hb4 := below_to hb2 hb2.size hb3
  have hT3 := hT2.below hb3
  have hs2 := HS1.out.below hb3
  clear d0 d1 d2 d3 d4 d5 d6 HS1
  have lx := hs2.lt
  have lt := hT3.lt
  have hm0 : MapIs intKey (((w2.alloc (.map #[] 0)).alloc (.cells #[.map (some w2.heap.size)] 60)).alloc (.cells #[(.func (.func 30) #[] #[.pointer (some ⟨w2.heap.size + 1, 0, none⟩), .pointer (some ⟨Bx, 0, none⟩), .pointer (some ⟨w2.heap.size + 1 + 1, 0, none⟩)])] 61)) w2.heap.size [] :=
    ((MapIs.made intKey w2).of_block (heap_alloc_lt _ _ _ (by simp))).of_block (heap_alloc_lt _ _ _ (by simp; omega))
  have hk0 : (((w2.alloc (.map #[] 0)).alloc (.cells #[.map (some w2.heap.size)] 60)).alloc (.cells #[(.func (.func 30) #[] #[.pointer (some ⟨w2.heap.size + 1, 0, none⟩), .pointer (some ⟨Bx, 0, none⟩), .pointer (some ⟨w2.heap.size + 1 + 1, 0, none⟩)])] 61)).heap[w2.heap.size + 1]? = some (.cells #[.map (some w2.heap.size)] 60) := alloc_old (heap_alloc_at _ _ _ (by simp))
  have hf0 : (((w2.alloc (.map #[] 0)).alloc (.cells #[.map (some w2.heap.size)] 60)).alloc (.cells #[(.func (.func 30) #[] #[.pointer (some ⟨w2.heap.size + 1, 0, none⟩), .pointer (some ⟨Bx, 0, none⟩), .pointer (some ⟨w2.heap.size + 1 + 1, 0, none⟩)])] 61)).heap[w2.heap.size + 1 + 1]? = some (.cells #[(.func (.func 30) #[] #[.pointer (some ⟨w2.heap.size + 1, 0, none⟩), .pointer (some ⟨Bx, 0, none⟩), .pointer (some ⟨w2.heap.size + 1 + 1, 0, none⟩)])] 61) := heap_alloc_at _ _ _ (by simp)
  have hb5 : Below w2.heap.size w2 (((w2.alloc (.map #[] 0)).alloc (.cells #[.map (some w2.heap.size)] 60)).alloc (.cells #[(.func (.func 30) #[] #[.pointer (some ⟨w2.heap.size + 1, 0, none⟩), .pointer (some ⟨Bx, 0, none⟩), .pointer (some ⟨w2.heap.size + 1 + 1, 0, none⟩)])] 61)) := (((Below.refl _ _).alloc (Nat.le_refl _) _).alloc (by simp) _).alloc (by simp; omega) _
  have hx0 := hs2.below hb5
  have hn0 := hx0.n
  have HM0 := Lib.hid hm0
  have HK0 := Lib.hid hk0
  have HF0 := Lib.hid hf0
  have HB5 := Lib.hid hb5
  have HX0 := Lib.hid hx0
  clear hm0 hk0 hf0 hb5 hx0 hs2 hmm
  have hmm := @run_makeMap Tryd.prog
  go_wp2_with fail
  generalize hW3 : World.alloc (World.alloc (World.alloc w2 _) _) _ = W3 at *
  have HCW : Hid (CntW cs w2.heap.size (w2.heap.size + 1) Bx (w2.heap.size + 1 + 1) W3 []) := Lib.hid ⟨HK0.out, HM0.out, by simp, by simp, HX0.out, HF0.out, hT3.below HB5.out⟩
  have hcw := HCW.out
  have hb6 := below_to hb4 hb4.size HB5.out
  clear hW3 HM0 HK0 HF0 hn0 hmm
  generalize hbm : w2.heap.size = bm at *
  have hbmw : w.heap.size ≤ bm := by rw [← hbm]; exact hb4.size
  have hbmW : bm < W3.heap.size := hcw.m.lt
  have hsW : w.heap.size ≤ W3.heap.size := hb6.size
  have lt1 := hcw.tab.lt
  have hcnt : ∀ (k : Nat) (V : World) (kvs : List (Int × Value)), k < cs.length → CntW cs bm (bm + 1) Bx (bm + 1 + 1) V kvs → Calls Tryd.prog 30 #[.int .i64 k, .pointer (some ⟨bm + 1, 0, none⟩), .pointer (some ⟨Bx, 0, none⟩), .pointer (some ⟨bm + 1 + 1, 0, none⟩)] V fun e W' => e = .returned (.int .i64 (wrap64 (dnV cs k))) ∧ (∃ kvs', CntW cs bm (bm + 1) Bx (bm + 1 + 1) W' kvs') ∧ KeepM bm V W' := fun k V kvs hk h =>
    (count_any cs HS.out HP.out HC.out bm (bm + 1) Bx (bm + 1 + 1) (by omega) _ k V kvs (Nat.lt_succ_self _) hk h).mono fun e W' hh => ⟨hh.1, ⟨hh.2.1.choose, hh.2.1.choose_spec.1⟩, hh.2.2⟩
  have HCNT := Lib.hid hcnt
  have HB6 := Lib.hid hb6
  clear hcnt HB5 hb6 hcw
  go_loopw [8, 24] (fun s i wr => ∃ k : Nat, k ≤ cs.length ∧ i = .int .i64 k ∧ s = .int .i64 (wrap64 (sumTo (dnV cs) k)) ∧ (∃ kvs, CntW cs bm (bm + 1) Bx (bm + 1 + 1) wr kvs) ∧ KeepM bm W3 wr) (fun _ i _ => cs.length - (intOf i).toNat)
  case atStart => exact ⟨0, by omega, rfl, by rw [show wrap64 (sumTo (dnV cs) 0) = 0 by simp [sumTo, wrap64]], ⟨_, HCW.out⟩, KeepM.refl _ _⟩
  case round =>
    obtain ⟨k, hk, rfl, rfl, ⟨kvs, hcr⟩, hkr⟩ := hrel
    by_cases hlt : k < cs.length
    · have k1 : (k : Int) < (cs.length : Int) := by omega
      have HCR := Lib.hid hcr
      have HKR := Lib.hid hkr
      have cf := cell_of hcr.f (j := 0) rfl
      clear hcr hkr
      go_wp2_with fail
      refine (HCNT.out k _ kvs hlt HCR.out).mono ?_
      rintro e wr2 ⟨rfl, ⟨kv2, h1⟩, h2⟩
      have hadd : wrap64 (wrap64 (sumTo (dnV cs) k) + wrap64 (dnV cs k)) = wrap64 (sumTo (dnV cs) (k + 1)) := by
        rw [show sumTo (dnV cs) (k + 1) = sumTo (dnV cs) k + dnV cs k from rfl]; unfold wrap64; omega
      have HADD := Lib.hid hadd
      clear hadd
      go_wp2_with fail
      go_roundw
      case rel => exact ⟨k + 1, by omega, by go_num, by rw [HADD.out], ⟨_, h1⟩, HKR.out.trans h2⟩
      case measure => simp [intOf]; omega
    · have hkn : k = cs.length := by omega
      subst hkn
      have HKR := Lib.hid hkr
      clear hkr hcr
      go_wp2_with fail
      go_ret2
      exact ⟨rfl, HB6.out.trans (KeepM.below (B := w.heap.size) HKR.out hbmw hsW)⟩

set_option maxRecDepth 100000 in
theorem Chains_alike (v : Value) (cs : List Nat) (w : World) (hr : Reads w v (ofNats cs)) (hc : Codes cs) (hsp : spaceB cs = true) (hp : plainB cs = false) (hT : Tab w) :
    Calls Tryd.prog 17 #[v] w fun e w' => e = .returned (.tuple #[.int .i64 0, .int .i64 6]) ∧ Below w.heap.size w w' := by
  have hr0 := hr
  obtain ⟨a, cap, rfl, _, _, _⟩ := hr.open
  clear hr
  have hn6 := hc.2.1
  have HP := Lib.hid hp
  have HC := Lib.hid hc
  clear hp
  go_enter Tryd.func17, Tryd.ntmps17
  go_wp2_with fail
  refine (newSpace_yes _ cs _ hr0 hc hsp hT).mono ?_
  clear hsp hc
  rintro e w1 ⟨rfl, hb1⟩
  obtain ⟨hs1, hb2⟩ := lay_sp hb1 cs.length (cell cs)
  go_wp2_with fail
  generalize hW : World.alloc w1 _ = W at *
  generalize hX : w1.heap.size = Bx at *
  clear hW hX
  obtain ⟨d0, d1, d2, d3, d4, d5, d6⟩ := hs1.cells
  clear hs1
  go_wp2_with fail
  refine (isPlain_any cs _ HC.out).mono ?_
  rintro e w2 ⟨rfl, hb3⟩
  rw [HP.out]
  have hb4 := below_to hb2 hb2.size hb3
  clear d0 d1 d2 d3 d4 d5 d6
  go_wp2_with fail
  go_ret2
  exact ⟨rfl, hb4⟩
set_option maxRecDepth 100000 in
theorem Chains_no (v : Value) (l : List Int) (w : World) (hr : Reads w v l) (h : spL l = false) (hT : Tab w) :
    Calls Tryd.prog 17 #[v] w fun e w' => e = .returned (.tuple #[.int .i64 0, .int .i64 2]) ∧ Below w.heap.size w w' := by
  have hr0 := hr
  obtain ⟨a, cap, rfl, _, _, _⟩ := hr.open
  clear hr
  go_enter Tryd.func17, Tryd.ntmps17
  go_wp2_with fail
  refine (newSpace_no _ l _ hr0 h hT).mono ?_
  rintro e w1 ⟨n, c, rfl, hb1⟩
  obtain ⟨hs1, hb2⟩ := lay_sp hb1 n c
  go_wp2_with fail
  go_ret2
  exact ⟨rfl, hb2⟩
end Go.Proofs.YtmagkcioplcidabDoor

/- ply: Smooth, where one of the lists is no space. -/
set_option linter.unusedVariables false
set_option linter.unusedSimpArgs false
namespace Go.Proofs.YtmagkcioplcidabDoor
open Go.RowKit Go.Shelf
attribute [local go_sem] Oper.semAt_some

/-- newSpace at any list -/
theorem newSpace_all (v : Value) (l : List Int) (w : World) (hr : Reads w v l) (hT : Tab w) :
    Calls Tryd.prog 23 #[v] w fun e w' => ∃ n c, e = .returned (.tuple #[spF n c, .bool (spL l)]) ∧ Below w.heap.size w w' := by
  rcases h : spL l with _ | _
  · exact newSpace_no v l w hr h hT
  · obtain ⟨cs, rfl, hc, hs⟩ : ∃ cs, l = ofNats cs ∧ Codes cs ∧ spaceB cs = true := by
      have := spL_get h
      exact ⟨_, this.2.2, this.1, this.2.1⟩
    exact (newSpace_yes v cs w hr hc hs hT).mono fun e w' hh => ⟨_, _, hh.1, hh.2⟩
set_option maxRecDepth 100000 in
set_option maxHeartbeats 1600000 in
theorem Smooth_no (v u : Value) (l m : List Int) (w : World) (hr : Reads w v l) (hru : Reads w u m) (h : (spL l && spL m) = false) (hT : Tab w) :
    Calls Tryd.prog 16 #[v, u] w fun e w' => e = .returned (.tuple #[.int .i64 0, .int .i64 2]) ∧ Below w.heap.size w w' := by
  have hr0 := hr
  have hru0 := hru
  obtain ⟨a, cap, rfl, _, _, _⟩ := hr.open
  obtain ⟨a2, cap2, rfl, _, _, _⟩ := hru.open
  clear hr hru
  refine (callsIn_wide (n := 20)).1 ?_
  refine callsIn_of_wp_marks Tryd.func16 rfl trivial ?_ rfl
  simp only [Tryd.ntmps16, List.size_toArray, List.length_cons, List.length_nil, Nat.reduceAdd, Nat.reduceSub, Array.replicate_succ, Array.replicate_zero, List.push_toArray, List.append_toArray, List.nil_append, List.cons_append]
  gi_wp2_with fail
  refine ⟨trivial, (callsIn_wide.2 (newSpace_all _ l _ hr0 hT)).mono ?_⟩
  rintro e w1 ⟨n, c, rfl, hb1⟩
  obtain ⟨hs1, hb2⟩ := lay_sp hb1 n c
  have hT2 := hT.below hb2
  have hru2 := hru0.below hb2
  gi_wp2_with fail
  generalize hW : World.alloc w1 _ = W at *
  clear hW
  refine ⟨trivial, (callsIn_wide.2 (newSpace_all _ m _ hru2 hT2)).mono ?_⟩
  rintro e w2 ⟨n2, c2, rfl, hb3⟩
  obtain ⟨hs2, hb4⟩ := lay_sp hb3 n2 c2
  have hb5 := below_to hb2 hb2.size hb4
  clear hs1 hs2
  rcases h1 : spL l with _ | _
  · gi_wp2_with fail
    refine leave_marks (B := w.heap.size) [] w.heap.size _ trivial fun w' hs => ?_
    exact ⟨_, results_tmp2 rfl _ _ _, rfl, hb5.trans hs.below⟩
  · rw [h1, Bool.true_and] at h
    rw [h]
    gi_wp2_with fail
    refine leave_marks (B := w.heap.size) [] w.heap.size _ trivial fun w' hs => ?_
    exact ⟨_, results_tmp2 rfl _ _ _, rfl, hb5.trans hs.below⟩
end Go.Proofs.YtmagkcioplcidabDoor

/- ply: Opens. -/
set_option linter.unusedVariables false
set_option linter.unusedSimpArgs false
namespace Go.Proofs.YtmagkcioplcidabDoor
open Go.RowKit

set_option maxRecDepth 100000 in
set_option maxHeartbeats 1600000 in
theorem Opens_yes (v : Value) (cs : List Nat) (w : World) (hr : Reads w v (ofNats cs)) (hc : Codes cs) (hsp : spaceB cs = true) (hT : Tab w) :
    Calls Tryd.prog 13 #[v] w fun e w' => ∃ v', e = .returned (.tuple #[v', .int .i64 0]) ∧ Col w w' v' (ofNats (opensN cs)) := by
  have hr0 := hr
  obtain ⟨a, cap, rfl, _, _, _⟩ := hr.open
  clear hr
  have hn6 := hc.2.1
  obtain ⟨N, hN⟩ : ∃ N, 2 ^ cs.length = N := ⟨_, rfl⟩
  have hN64 : N ≤ 64 := by rw [← hN]; exact Nat.pow_le_pow_right (n := 2) (by omega) hn6
  have HN : Hid (openTo cs N = opensN cs) := Lib.hid (by rw [← hN]; rfl)
  have hN1 : IntKind.u64.wrap ((allN cs.length : Nat) + 1 : Int) = (N : Int) := by
    have h1 : allN cs.length + 1 = N := by unfold allN; have := Nat.two_pow_pos cs.length; omega
    rw [show ((allN cs.length : Nat) + 1 : Int) = ((allN cs.length + 1 : Nat) : Int) by push_cast; rfl, h1]
    exact wrapU N (by omega)
  have HFIX : Hid (∀ k, k < N → (insideN cs k = k ↔ openB cs k = true)) := Lib.hid (fun k hk => inside_fix (by rw [hN]; exact hk))
  have HLT : Hid (∀ k, k < N → k < 2 ^ cs.length) := Lib.hid (fun k hk => by rw [hN]; exact hk)
  have HC := Lib.hid hc
  clear hN
  go_enter Tryd.func13, Tryd.ntmps13
  go_wp2_with fail
  refine (newSpace_yes _ cs _ hr0 hc hsp hT).mono ?_
  rintro e w1 ⟨rfl, hb1⟩
  obtain ⟨hs1, hb2⟩ := lay_sp hb1 cs.length (cell cs)
  go_wp2_with fail
  generalize hW : World.alloc w1 _ = W at *
  clear hW
  obtain ⟨d0, d1, d2, d3, d4, d5, d6⟩ := hs1.cells
  go_wp2_with fail
  refine (all_any cs _ hn6).mono ?_
  rintro e w2 ⟨rfl, hb3⟩
  have hs2 := hs1.below hb3
  have hb4 := below_to hb2 hb2.size hb3
  have hlt := hs1.lt
  generalize w1.heap.size = B1 at *
  clear hs1 d0 d1 d2 d3 d4 d5 d6 hb1 hb2 hb3 hr0
  go_wp2_with fail
  go_loopw [6, 18] (fun v i wr => ∃ k : Nat, k ≤ N ∧ i = .int .u64 k ∧ Col w wr v (ofNats (openTo cs k)) ∧ SpF wr B1 cs.length (cell cs)) (fun _ i _ => N - (intOf i).toNat)
  case atStart => exact ⟨0, by omega, rfl, ⟨World.ownsRow_nil _ _ _ _, hb4⟩, hs2⟩
  case round =>
    obtain ⟨k, hk, rfl, hcol, hsr⟩ := hrel
    have HCOL := Lib.hid hcol
    have HSR := Lib.hid hsr
    by_cases hlt2 : k < N
    · obtain ⟨d0, d1, d2, d3, d4, d5, d6⟩ := hsr.cells
      have k1 : (k : Int) < (N : Int) := by omega
      have hw1 : IntKind.u64.wrap ((k : Int) + 1) = ((k + 1 : Nat) : Int) := by
        rw [show ((k : Int) + 1) = ((k + 1 : Nat) : Int) by push_cast; rfl]
        exact wrapU (k + 1) (by omega)
      have hwi := wrapI k (by omega)
      have hst := openTo_succ cs k
      have hfx := HFIX.out k hlt2
      have hkn := HLT.out k hlt2
      clear hcol hsr
      rcases hop : openB cs k with _ | _
      · have hne : ¬ insideN cs k = k := fun e => by rw [hfx.1 e] at hop; cases hop
        have hne2 : ((insideN cs k : Int) == (k : Int)) = false := by
          rw [beq_eq_false_iff_ne]; intro e; apply hne; exact_mod_cast e
        rw [hop] at hst
        have HS := Lib.hid hst
        clear hst hop hfx hne
        go_wp2_with fail
        refine (inside_any cs k _ HC.out hkn (hT.below HCOL.out.below)).mono ?_
        rintro e w3 ⟨rfl, hb5⟩
        go_wp2_with fail
        go_roundw
        case rel => exact ⟨k + 1, by omega, by go_num, by rw [HS.out]; simpa using HCOL.out.step hb5, HSR.out.below hb5⟩
        case measure => simp [intOf]; omega
      · have heq : insideN cs k = k := hfx.2 hop
        rw [hop, if_pos rfl] at hst
        have HS := Lib.hid hst
        have HEQ := Lib.hid heq
        have HL : Hid ((ofNats (openTo cs k)).length ≤ 1000000000) := Lib.hid (by have := openTo_len cs k; omega)
        clear hst hop hfx heq
        go_wp2_with fail
        refine (inside_any cs k _ HC.out hkn (hT.below HCOL.out.below)).mono ?_
        rintro e w3 ⟨rfl, hb5⟩
        rw [HEQ.out]
        have HC3 := Lib.hid (HCOL.out.step hb5)
        have HS3 := Lib.hid (HSR.out.below hb5)
        go_wp2_with (at_builtin; refine append_intK rfl _ _ rfl HC3.out rfl _ rfl HL.out ?_; intro v' w' hcol' hne hkeep)
        go_roundw
        case rel => exact ⟨k + 1, by omega, by go_num, by rw [HS.out]; exact hcol', hkeep.sp HS3.out⟩
        case measure => simp [intOf]; omega
    · obtain rfl : k = N := by omega
      have k1 : ¬ (k : Int) < (k : Int) := by omega
      clear hcol hsr
      go_wp2_with fail
      go_ret2
      exact ⟨_, rfl, by rw [← HN.out]; exact HCOL.out⟩
set_option maxRecDepth 100000 in
theorem Opens_no (v : Value) (l : List Int) (w : World) (hr : Reads w v l) (h : spL l = false) (hT : Tab w) :
    Calls Tryd.prog 13 #[v] w fun e w' => e = .returned (.tuple #[.slice none 0 0, .int .i64 2]) ∧ Below w.heap.size w w' := by
  have hr0 := hr
  obtain ⟨a, cap, rfl, _, _, _⟩ := hr.open
  clear hr
  go_enter Tryd.func13, Tryd.ntmps13
  go_wp2_with fail
  refine (newSpace_no _ l _ hr0 h hT).mono ?_
  rintro e w1 ⟨n, c, rfl, hb1⟩
  obtain ⟨hs1, hb2⟩ := lay_sp hb1 n c
  go_wp2_with fail
  go_ret2
  exact ⟨rfl, hb2⟩
end Go.Proofs.YtmagkcioplcidabDoor

/- ply: ints and awake, what every statement looks at. -/
set_option linter.unusedVariables false
set_option linter.unusedSimpArgs false
namespace Go.Proofs.YtmagkcioplcidabDoor
open Go.RowKit

theorem take_eq_succ {xs ys : List Int} {k : Nat} (h1 : k < xs.length) (h2 : k < ys.length) (h : xs.take k = ys.take k) (he : gi xs k = gi ys k) : xs.take (k + 1) = ys.take (k + 1) := by
  rw [List.take_succ_eq_append_getElem h1, List.take_succ_eq_append_getElem h2, h, ← gi_lt h1, ← gi_lt h2, he]

set_option maxRecDepth 100000 in
set_option maxHeartbeats 800000 in
theorem ints_any (v u : Value) (xs ys : List Int) (w : World) (hr : Reads w v xs) (hs : Reads w u ys) :
    Calls Tryd.prog 18 #[v, u] w fun e w' => e = .returned (.bool (decide (xs = ys))) ∧ ∃ n, w' = w.drewN n := by
  obtain ⟨a, cap, rfl, h1, h2, hcell⟩ := hr.open
  obtain ⟨a2, cap2, rfl, h12, h22, hcell2⟩ := hs.open
  have h3 : xs.length ≤ 9223372036854775807 := by unfold maxLen at h2; omega
  clear h2 h22
  by_cases hl : xs.length = ys.length
  · have hl' : ((xs.length : Int) == (ys.length : Int)) = true := by simp [hl]
    have hl2 : (!((xs.length : Int) == (ys.length : Int))) = false := by simp [hl]
    have HL := Lib.hid hl
    clear hl
    go_enter Tryd.func18, Tryd.ntmps18
    go_wp2_with fail
    go_loopw [5] (fun i wr => ∃ k m : Nat, k ≤ xs.length ∧ i = .int .i64 k ∧ xs.take k = ys.take k ∧ wr = w.drewN m) (fun i _ => xs.length - (intOf i).toNat)
    case atStart => exact ⟨0, 0, by omega, rfl, by simp, rfl⟩
    case round =>
      obtain ⟨k, m, hk, rfl, ht, rfl⟩ := hrel
      have HT := Lib.hid ht
      clear ht
      by_cases hlt : k < xs.length
      · obtain ⟨b, off, rfl, hb, hc⟩ := hcell k hlt
        obtain ⟨b2, off2, rfl, hb2, hc2⟩ := hcell2 k (by have := HL.out; omega)
        clear hcell hcell2
        have hk0 : (0 : Int) ≤ (k : Int) := by omega
        have hk1 : (k : Int) < (xs.length : Int) := by omega
        have hk2 : (k : Int) < (ys.length : Int) := by have := HL.out; omega
        go_wp2_with fail
        go_quiet (fail)
        by_cases he : gi xs k = gi ys k
        · have he' : ((gi xs k) == (gi ys k)) = true := by simp [he]
          have HE := Lib.hid he
          clear he
          go_wp2
          go_roundw
          case rel => exact ⟨k + 1, _, by omega, by go_num, take_eq_succ hlt (by have := HL.out; omega) HT.out HE.out, rfl⟩
          case measure => simp [intOf]; omega
        · have he' : ((gi xs k) == (gi ys k)) = false := by simp [he]
          have HE := Lib.hid he
          clear he
          go_wp2
          go_ret
          refine ⟨ret_bool ?_, _, by first | rfl | exact World.drewN_drewN ..⟩
          symm
          rw [decide_eq_false_iff_not]
          rintro rfl; exact HE.out rfl
      · go_wp2_with fail
        go_ret
        refine ⟨ret_bool ?_, _, rfl⟩
        symm
        rw [decide_eq_true_eq]
        have h := HT.out
        have h9 := HL.out
        rwa [List.take_of_length_le (by omega), List.take_of_length_le (by omega)] at h
  · have hl' : ((xs.length : Int) == (ys.length : Int)) = false := by
      rw [beq_eq_false_iff_ne]; intro h; exact hl (by exact_mod_cast h)
    have HL := Lib.hid hl
    clear hl
    go_enter Tryd.func18, Tryd.ntmps18
    go_wp2_with fail
    go_ret
    refine ⟨ret_bool ?_, 0, rfl⟩
    symm
    rw [decide_eq_false_iff_not]
    rintro rfl; exact HL.out rfl

theorem ints_same (v u : Value) (xs : List Int) (w : World) (hr : Reads w v xs) (hs : Reads w u xs) :
    Calls Tryd.prog 18 #[v, u] w fun e w' => e = .returned (.bool true) ∧ ∃ n, w' = w.drewN n :=
  (ints_any v u xs xs w hr hs).mono fun e w' h => ⟨by rw [h.1, decide_eq_true rfl], h.2⟩
/-- a slice of no numbers shows its length -/
theorem reads_nil {w : World} {v : Value} (h : Reads w v []) : ∃ a cap, v = .slice a 0 cap := by
  obtain ⟨a, cap, h1, _⟩ := h
  exact ⟨a, cap, h1⟩

theorem reads_lit {w : World} {b : Nat} {xs : List Int} {cs : Array Value} {t : TypeId} (h : w.heap[b]? = some (.cells cs t)) (hc : cs = (xs.map (Value.int .i64)).toArray) (hl : xs.length ≤ 1000) : Reads w (.slice (some ⟨b, 0, none⟩) xs.length xs.length) xs := by
  subst hc
  refine ⟨_, xs.length, rfl, Nat.le_refl _, by simp [maxLen]; omega, .inr ⟨b, 0, rfl, heap_lt h, fun j hj => ?_⟩⟩
  rw [Nat.zero_add, cell_of_row _ _ _ _ _ _ h, gi_lt hj]
  simp [hj]

theorem codes_dec {cs : List Nat} (h : (decide (1 ≤ cs.length) && decide (cs.length ≤ 6) && cs.all fun x => decide (x < 2 ^ cs.length)) = true) : Codes cs := by
  simp only [Bool.and_eq_true, decide_eq_true_eq, List.all_eq_true] at h
  refine ⟨h.1.1, h.1.2, fun p => ?_⟩
  unfold cell
  by_cases hp : p < cs.length
  · have e : cs.getD p 0 = cs[p] := by simp [List.getD_eq_getElem?_getD, hp]
    rw [e]; exact h.2 _ (List.getElem_mem hp)
  · have e : cs.getD p 0 = 0 := by simp only [List.getD_eq_getElem?_getD]; rw [List.getElem?_eq_none (by omega)]; rfl
    rw [e]; exact Nat.two_pow_pos _
theorem cod13 : Codes [1, 3] := codes_dec (by decide)
theorem cod1 : Codes [1, 2, 7, 11] := codes_dec (by decide)
theorem aw1 : opensN [1, 3] = [0, 1, 3] := by kernel_rfl
theorem aw2 : closureN [1, 3] 1 = 3 := by kernel_rfl
theorem aw3 : bitsOf (coreN [1, 3]) = [1] := by kernel_rfl
theorem aw4 : (smoothsN [1, 3] [1, 3]).length = 3 := by kernel_rfl
theorem aw5 : wrap64 (sumTo (dnV [1, 2, 7, 11]) 4) = 0 := by kernel_rfl

set_option maxRecDepth 100000 in
set_option maxHeartbeats 3200000 in
theorem awake_any (w : World) (hT : Tab w) : Calls Tryd.prog 5 #[] w fun e w' => e = .returned (.bool true) ∧ Below w.heap.size w w' := by
  have r1 : Reads _ _ (ofNats [1, 3]) := reads_lit (xs := [1, 3]) (heap_alloc_new w (.cells #[.int .i64 1, .int .i64 3] 3)) rfl (by simp)
  have b1 := (Below.refl _ w).alloc (Nat.le_refl _) (.cells #[.int .i64 1, .int .i64 3] 3)
  go_enter Tryd.func5, Tryd.ntmps5
  go_wp2_with fail
  refine (Opens_yes _ [1, 3] _ r1 cod13 (by kernel_rfl) (hT.below b1)).mono ?_
  rintro e w1 ⟨v1, rfl, hc1⟩
  rw [aw1] at hc1
  have b2 := below_to b1 b1.size hc1.below
  have ro : Reads w1 v1 [0, 1, 3] := hc1.reads
  clear hc1 r1 b1
  go_wp2_with fail
  have r2 : Reads _ _ (ofNats [1, 3]) := reads_lit (xs := [1, 3]) (heap_alloc_new w1 (.cells #[.int .i64 1, .int .i64 3] 3)) rfl (by simp)
  have b3 := b2.alloc b2.size (.cells #[.int .i64 1, .int .i64 3] 3)
  have ro2 := ro.below ((Below.refl _ _).alloc (Nat.le_refl _) (.cells #[.int .i64 1, .int .i64 3] 3))
  refine (Closure_yes _ [1, 3] 1 _ r2 cod13 (by kernel_rfl) (by decide) (hT.below b3)).mono ?_
  rintro e w2 ⟨rfl, hb⟩
  rw [aw2]
  have b4 := below_to b3 b3.size hb
  have ro3 := ro2.below hb
  clear hb r2 b3 ro2 ro b2
  go_wp2_with fail
  have r3 : Reads _ _ (ofNats [1, 3]) := reads_lit (xs := [1, 3]) (heap_alloc_new w2 (.cells #[.int .i64 1, .int .i64 3] 3)) rfl (by simp)
  have b5 := b4.alloc b4.size (.cells #[.int .i64 1, .int .i64 3] 3)
  have ro4 := ro3.below ((Below.refl _ _).alloc (Nat.le_refl _) (.cells #[.int .i64 1, .int .i64 3] 3))
  refine (Core_yes _ [1, 3] _ r3 cod13 (by kernel_rfl) (hT.below b5)).mono ?_
  rintro e w3 ⟨v3, rfl, hc3⟩
  rw [aw3] at hc3
  have b6 := below_to b5 b5.size hc3.below
  have ro5 := ro4.below hc3.below
  have rc : Reads w3 v3 [1] := hc3.reads
  clear hc3 r3 b4 ro3 b5 ro4
  go_wp2_with fail
  have r4 : Reads _ _ (ofNats [1, 3]) := (reads_lit (xs := [1, 3]) (heap_alloc_new w3 (.cells #[.int .i64 1, .int .i64 3] 3)) rfl (by simp)).below ((Below.refl _ _).alloc (Nat.le_refl _) (.cells #[.int .i64 1, .int .i64 3] 3))
  have r5 : Reads _ _ (ofNats [1, 3]) := reads_lit (xs := [1, 3]) (heap_alloc_at (w3.alloc (.cells #[.int .i64 1, .int .i64 3] 3)) (.cells #[.int .i64 1, .int .i64 3] 3) (w3.heap.size + 1) (by simp)) rfl (by simp)
  have b7 := b6.alloc b6.size (.cells #[.int .i64 1, .int .i64 3] 3)
  have b8 := b7.alloc b7.size (.cells #[.int .i64 1, .int .i64 3] 3)
  have ro6 := (ro5.below ((Below.refl _ _).alloc (Nat.le_refl _) (.cells #[.int .i64 1, .int .i64 3] 3))).below ((Below.refl _ _).alloc (Nat.le_refl _) (.cells #[.int .i64 1, .int .i64 3] 3))
  have rc6 := (rc.below ((Below.refl _ _).alloc (Nat.le_refl _) (.cells #[.int .i64 1, .int .i64 3] 3))).below ((Below.refl _ _).alloc (Nat.le_refl _) (.cells #[.int .i64 1, .int .i64 3] 3))
  refine (Smooth_yes _ _ [1, 3] [1, 3] _ r4 r5 cod13 cod13 (by kernel_rfl) (by kernel_rfl) (hT.below b8)).mono ?_
  rintro e w4 ⟨rfl, hb⟩
  rw [aw4]
  have b9 := below_to b8 b8.size hb
  have ro7 := ro6.below hb
  have rc7 := rc6.below hb
  clear hb r4 r5 b6 b7 b8 ro5 ro6 rc rc6
  go_wp2_with fail
  have r6 : Reads _ _ (ofNats [1, 2, 7, 11]) := reads_lit (xs := [1, 2, 7, 11]) (heap_alloc_new w4 (.cells #[.int .i64 1, .int .i64 2, .int .i64 7, .int .i64 11] 3)) rfl (by simp)
  have b10 := b9.alloc b9.size (.cells #[.int .i64 1, .int .i64 2, .int .i64 7, .int .i64 11] 3)
  have ro8 := ro7.below ((Below.refl _ _).alloc (Nat.le_refl _) (.cells #[.int .i64 1, .int .i64 2, .int .i64 7, .int .i64 11] 3))
  have rc8 := rc7.below ((Below.refl _ _).alloc (Nat.le_refl _) (.cells #[.int .i64 1, .int .i64 2, .int .i64 7, .int .i64 11] 3))
  refine (Chains_yes _ [1, 2, 7, 11] _ r6 cod1 (by kernel_rfl) (by kernel_rfl) (hT.below b10)).mono ?_
  rintro e w5 ⟨rfl, hb⟩
  rw [show ([1, 2, 7, 11] : List Nat).length = 4 from rfl, aw5]
  have b11 := below_to b10 b10.size hb
  have ro9 := ro8.below hb
  have rc9 := rc8.below hb
  clear hb r6 b9 b10 ro7 ro8 rc7 rc8
  go_wp2_with fail
  have r7 := reads_lit (xs := [0, 1, 3]) (heap_alloc_new w5 (.cells #[.int .i64 0, .int .i64 1, .int .i64 3] 3)) rfl (by simp)
  have b12 := b11.alloc b11.size (.cells #[.int .i64 0, .int .i64 1, .int .i64 3] 3)
  have ro10 := ro9.below ((Below.refl _ _).alloc (Nat.le_refl _) (.cells #[.int .i64 0, .int .i64 1, .int .i64 3] 3))
  have rc10 := rc9.below ((Below.refl _ _).alloc (Nat.le_refl _) (.cells #[.int .i64 0, .int .i64 1, .int .i64 3] 3))
  refine (ints_same _ _ [0, 1, 3] _ ro10 r7).mono ?_
  rintro e w6 ⟨rfl, m6, rfl⟩
  have b13 := below_to b12 b12.size (below_drewN _ m6)
  have rc11 := rc10.below (below_drewN _ m6)
  clear r7 b11 b12 ro9 ro10 rc9 rc10
  generalize hW6 : World.drewN _ m6 = W6 at *
  clear hW6
  go_wp2_with fail
  have r8 := reads_lit (xs := [1]) (heap_alloc_new W6 (.cells #[.int .i64 1] 3)) rfl (by simp)
  have b14 := b13.alloc b13.size (.cells #[.int .i64 1] 3)
  have rc12 := rc11.below ((Below.refl _ _).alloc (Nat.le_refl _) (.cells #[.int .i64 1] 3))
  refine (ints_same _ _ [1] _ rc12 r8).mono ?_
  rintro e w7 ⟨rfl, m7, rfl⟩
  have b15 := below_to b14 b14.size (below_drewN _ m7)
  clear r8 b13 b14 rc11 rc12
  generalize hW7 : World.drewN _ m7 = W7 at *
  clear hW7
  go_wp2_with fail
  go_ret
  exact ⟨rfl, b15⟩
end Go.Proofs.YtmagkcioplcidabDoor

/- PlyCounts. -/
set_option linter.unusedVariables false
set_option linter.unusedSimpArgs false
namespace Go.Proofs.YtmagkcioplcidabDoor
open Go.RowKit

set_option maxRecDepth 100000 in
set_option maxHeartbeats 3200000 in
theorem PlyCounts_walk (a0 : Int) (w : World) (h0 : -9223372036854775808 ≤ a0 ∧ a0 ≤ 9223372036854775807) (hT : Tab w) :
    Calls Tryd.prog 3 #[.int .i64 a0] w fun e w' => e = .returned (.bool true) ∧ Below w.heap.size w w' := by
  rcases hw : withinB a0 1 4 with _ | _
  · have hn : ¬ (1 ≤ a0 ∧ a0 ≤ 4) := fun h => by rw [withinB_iff.2 h] at hw; cases hw
    have HW := Lib.hid hw
    clear hw
    by_cases h1 : a0 < 1
    · clear hn h0
      go_enter Tryd.func3, Tryd.ntmps3
      go_wp2_with fail
      refine (Count_no _ _ HW.out).mono ?_
      rintro e w1 ⟨rfl, hb⟩
      go_wp2_with fail
      refine (awake_any _ (hT.below hb)).mono ?_
      rintro e w2 ⟨rfl, hbn⟩
      replace hb := below_to hb hb.size hbn
      clear hbn
      go_wp2_with fail
      go_ret
      exact ⟨rfl, hb⟩
    · have h4 : 4 < a0 := by omega
      clear hn h0
      go_enter Tryd.func3, Tryd.ntmps3
      go_wp2_with fail
      refine (Count_no _ _ HW.out).mono ?_
      rintro e w1 ⟨rfl, hb⟩
      go_wp2_with fail
      refine (awake_any _ (hT.below hb)).mono ?_
      rintro e w2 ⟨rfl, hbn⟩
      replace hb := below_to hb hb.size hbn
      clear hbn
      go_wp2_with fail
      go_ret
      exact ⟨rfl, hb⟩
  · obtain ⟨h1, h4⟩ := withinB_iff.1 hw
    obtain ⟨n, rfl⟩ : ∃ n : Nat, a0 = n := ⟨a0.toNat, by omega⟩
    have n1 : 1 ≤ n := by omega
    have n4 : n ≤ 4 := by omega
    have hlt : ¬ (n : Int) < 1 := by omega
    have hgt : ¬ (4 : Int) < (n : Int) := by omega
    clear hw h0 h1 h4
    have HC := Lib.hid (fun w hT => Count_yes n w n1 n4 hT)
    have HR := Lib.hid (fun w => refCount_any n w n1 n4)
    generalize leaves spaceB (2 ^ n) n [] = LA at *
    generalize leaves spacePlain (2 ^ n) n [] = LB at *
    go_enter Tryd.func3, Tryd.ntmps3
    go_wp2_with fail
    refine (HC.out _ hT).mono ?_
    rintro e w1 ⟨rfl, hb⟩
    go_wp2_with fail
    refine (HR.out _).mono ?_
    rintro e w2 ⟨rfl, hbn⟩
    replace hb := below_to hb hb.size hbn
    clear hbn
    go_wp2_with fail
    refine (awake_any _ (hT.below hb)).mono ?_
    rintro e w3 ⟨rfl, hbn⟩
    replace hb := below_to hb hb.size hbn
    clear hbn
    go_wp2_with fail
    go_ret
    exact ⟨rfl, hb⟩
end Go.Proofs.YtmagkcioplcidabDoor
