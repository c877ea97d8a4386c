/- ply: the smooth maps, one after the other: smooth's iterator. -/
import Derived.Test.YtfhcbaamibipcaaDoorPList
import Derived.Test.YtfhcbaamibipcaaDoorGiven
import Derived.Test.YtfhcbaamibipcaaDoorPCls
import Derived.Laws.EntriesVeiled
set_option linter.unusedVariables false
set_option linter.unusedSimpArgs false
namespace Go.Proofs.YtfhcbaamibipcaaDoor
open Go.RowKit Go.Shelf
attribute [local go_sem] Oper.semAt_some

/-! ### images -/
abbrev imF (f : Nat → Nat) : Value := .agg #[.int .i64 (f 0), .int .i64 (f 1), .int .i64 (f 2), .int .i64 (f 3), .int .i64 (f 4), .int .i64 (f 5)]
def ImF (w : World) (b : Nat) (f : Nat → Nat) : Prop := w.heap[b]? = some (.cells #[.int .i64 (f 0), .int .i64 (f 1), .int .i64 (f 2), .int .i64 (f 3), .int .i64 (f 4), .int .i64 (f 5)] 68)
theorem ImF.cell {w : World} {b : Nat} {c : Nat → Nat} (h : ImF w b c) {p : Nat} (hp : p < 6) : w.cell? ⟨b, p, none⟩ = some (.int .i64 (c p)) := by
  have e : p = 0 ∨ p = 1 ∨ p = 2 ∨ p = 3 ∨ p = 4 ∨ p = 5 := by omega
  rcases e with rfl | rfl | rfl | rfl | rfl | rfl <;> exact cell_of h rfl
theorem ImF.drewN {w : World} {b : Nat} {c : Nat → Nat} (h : ImF w b c) (k : Nat) : ImF (w.drewN k) b c := (heap_drewN _ _ _).trans h
theorem ImF.below {w w' : World} {b : Nat} {c : Nat → Nat} (h : ImF w b c) (hb : Below w.heap.size w w') : ImF w' b c := (hb.block b (heap_lt h)).trans h
theorem ImF.lt {w : World} {b : Nat} {c : Nat → Nat} (h : ImF w b c) : b < w.heap.size := heap_lt h
theorem ImF.free {w : World} {b : Nat} {c : Nat → Nat} (h : ImF w b c) (j : Nat) : w.frozen? ⟨b, j, none⟩ = false := free_of h j
theorem ImF.set {w : World} {b p v : Nat} {c c' : Nat → Nat} (h : ImF w b c) (hp : p < 6) (hc : ∀ j, j < 6 → c' j = if j = p then v else c j) : ImF (w.setCell ⟨b, p, none⟩ (.int .i64 v)) b c' := by
  have h0 := hc 0 (by omega)
  have h1 := hc 1 (by omega)
  have h2 := hc 2 (by omega)
  have h3 := hc 3 (by omega)
  have h4 := hc 4 (by omega)
  have h5 := hc 5 (by omega)
  have e : p = 0 ∨ p = 1 ∨ p = 2 ∨ p = 3 ∨ p = 4 ∨ p = 5 := by omega
  have hh := heap_setCell_same _ _ p _ _ (Value.int .i64 v) h
  unfold ImF
  rw [hh]
  rcases e with rfl | rfl | rfl | rfl | rfl | rfl <;> simp_all
theorem ImF.cells {w : World} {b : Nat} {c : Nat → Nat} (h : ImF w b c) : w.cell? ⟨b, 0, none⟩ = some (.int .i64 (c 0)) ∧ w.cell? ⟨b, 1, none⟩ = some (.int .i64 (c 1)) ∧ w.cell? ⟨b, 2, none⟩ = some (.int .i64 (c 2)) ∧
    w.cell? ⟨b, 3, none⟩ = some (.int .i64 (c 3)) ∧ w.cell? ⟨b, 4, none⟩ = some (.int .i64 (c 4)) ∧ w.cell? ⟨b, 5, none⟩ = some (.int .i64 (c 5)) :=
  ⟨cell_of h rfl, cell_of h rfl, cell_of h rfl, cell_of h rfl, cell_of h rfl, cell_of h rfl⟩
theorem cell_snoc (l : List Nat) (q j : Nat) : cell (l ++ [q]) j = if j = l.length then q else cell l j := by
  unfold cell
  by_cases h : j < l.length
  · rw [if_neg (by omega)]; simp [List.getElem?_append_left h]
  · by_cases e : j = l.length
    · subst e; simp
    · rw [if_neg e]; simp only [List.getD_eq_getElem?_getD]; rw [List.getElem?_eq_none (by simp; omega), List.getElem?_eq_none (by omega)]

/-! ### what is visited -/
def fit1 (cs ds : List Nat) (p : Nat) (g : Nat → Nat) (q o : Nat) : Bool := (!(cell cs p).testBit o || (cell ds q).testBit (g o)) && (!(cell cs o).testBit p || (cell ds (g o)).testBit q)
def fitTo (cs ds : List Nat) (p : Nat) (g : Nat → Nat) (q : Nat) : Nat → Bool
  | 0 => true
  | k + 1 => fitTo cs ds p g q k && fit1 cs ds p g q k
/-- may the point that comes go to q -/
def fitB (cs ds l : List Nat) (q : Nat) : Bool := fitTo cs ds l.length (cell (l ++ [q])) q l.length
def smL (cs ds : List Nat) : Nat → List Nat → List (List Nat)
  | 0, l => [l]
  | d + 1, l => (List.range ds.length).flatMap fun q => if fitB cs ds l q = true then smL cs ds d (l ++ [q]) else []
def smTo (cs ds : List Nat) (d : Nat) (l : List Nat) (m : Nat) : List (List Nat) := (List.range m).flatMap fun q => if fitB cs ds l q = true then smL cs ds d (l ++ [q]) else []
theorem smTo_succ (cs ds : List Nat) (d : Nat) (l : List Nat) (m : Nat) : smTo cs ds d l (m + 1) = smTo cs ds d l m ++ if fitB cs ds l m = true then smL cs ds d (l ++ [m]) else [] := by simp [smTo, List.range_succ]
theorem smTo_le (cs ds : List Nat) (d : Nat) (l : List Nat) : ∀ k m, smTo cs ds d l m <+: smTo cs ds d l (m + k)
  | 0, m => List.prefix_rfl
  | k + 1, m => (smTo_le cs ds d l k m).trans (by rw [← Nat.add_assoc, smTo_succ]; exact List.prefix_append _ _)

/-! ### the walk -/
def ExtI (X : Nat → Prop) (J Jx : List (List Nat) → World → Prop) (pre L : List (List Nat)) (W : World) (c : Bool) (W' : World) : Prop :=
  KeepX X W W' ∧ (c = true → J (pre ++ L) W') ∧ (c = false → ∃ ys, ys <+: L ∧ Jx (pre ++ ys) W')
theorem ExtI.mono {X : Nat → Prop} {J Jx : List (List Nat) → World → Prop} {pre L : List (List Nat)} {W0 W W' : World} {c : Bool} (h : ExtI X J Jx pre L W c W') (hk : KeepX X W0 W) : ExtI X J Jx pre L W0 c W' := ⟨hk.trans h.1, h.2⟩
structure CapsI (X : Nat → Prop) (cs ds : List Nat) (l Bx By Bz Be : Nat) (W : World) : Prop where
  x0 : SpF W Bx cs.length (cell cs)
  y0 : W.heap[By]? = some (.cells #[.func (.yield l) #[] #[]] 65)
  z0 : SpF W Bz ds.length (cell ds)
  e0 : W.heap[Be]? = some (.cells #[.func (.func 35) #[] #[.pointer (some ⟨Bx, 0, none⟩), .pointer (some ⟨By, 0, none⟩), .pointer (some ⟨Bz, 0, none⟩), .pointer (some ⟨Be, 0, none⟩)]] 66)
  nx : ¬ X Bx ∧ ¬ X By ∧ ¬ X Bz ∧ ¬ X Be
theorem CapsI.keep {X : Nat → Prop} {cs ds : List Nat} {l Bx By Bz Be : Nat} {W W' : World} (h : CapsI X cs ds l Bx By Bz Be W) (hk : KeepX X W W') : CapsI X cs ds l Bx By Bz Be W' :=
  ⟨hk.block h.x0 h.nx.1, hk.block h.y0 h.nx.2.1, hk.block h.z0 h.nx.2.2.1, hk.block h.e0 h.nx.2.2.2, h.nx⟩
theorem CapsI.set {X : Nat → Prop} {cs ds : List Nat} {l Bx By Bz Be : Nat} {W : World} (h : CapsI X cs ds l Bx By Bz Be W) {b : Nat} (h1 : Bx < b) (h2 : By < b) (h3 : Bz < b) (h4 : Be < b) (j : Nat) (v : Value) : CapsI X cs ds l Bx By Bz Be (W.setCell ⟨b, j, none⟩ v) :=
  ⟨h.x0.other (by omega), (heap_setCell_other _ _ _ _ (by show By ≠ b; omega)).trans h.y0, h.z0.other (by omega), (heap_setCell_other _ _ _ _ (by show Be ≠ b; omega)).trans h.e0, h.nx⟩
theorem has_known {s p : Nat} {b : Bool} (h : s.testBit p = b) (hs : s < 64) (hp : p < 64) (w : World) : Calls Tryd.prog 36 #[.int .u64 s, .int .i64 p] w fun e w' => e = .returned (.bool b) ∧ w = w' := by
  have := has_any s p w hs hp
  rwa [h] at this
def YieldI (X : Nat → Prop) (n l : Nat) (J Jx : List (List Nat) → World → Prop) : Prop :=
  ∀ pre x W1, J pre W1 → x.length = n → YieldAt Fence.wide 0 Tryd.prog l #[imF (cell x)] W1 fun e W' => (e = .returned (.bool true) ∧ J (pre ++ [x]) W' ∧ KeepX X W1 W') ∨ (e = .returned (.bool false) ∧ Jx (pre ++ [x]) W' ∧ KeepX X W1 W')

set_option maxRecDepth 100000 in
set_option maxHeartbeats 32000000 in
theorem extend_in (X : Nat → Prop) (cs ds : List Nat) (hc : Codes cs) (hd : Codes ds) (l Bx By Bz Be B0 : Nat) (hXB : ∀ b, X b → b < B0) (J Jx : List (List Nat) → World → Prop) (hJ : AbidesFrom B0 J) (hJB : ∀ pre W b j v, B0 ≤ b → J pre W → J pre (W.setCell ⟨b, j, none⟩ v)) (hY : YieldI X cs.length l J Jx) :
    ∀ (d : Nat) (lst : List Nat) (W : World) (pre : List (List Nat)), lst.length + d = cs.length → (∀ x ∈ lst, x < ds.length) → B0 ≤ W.heap.size → CapsI X cs ds l Bx By Bz Be W → J pre W →
      CallsIn Fence.wide 9 Tryd.prog 35 #[imF (cell lst), .int .i64 lst.length, .pointer (some ⟨Bx, 0, none⟩), .pointer (some ⟨By, 0, none⟩), .pointer (some ⟨Bz, 0, none⟩), .pointer (some ⟨Be, 0, none⟩)] W fun e W' => ∃ c, e = .returned (.bool c) ∧ ExtI X J Jx pre (smL cs ds d lst) W c W' := by
  intro d
  induction d with
  | zero =>
    intro lst W pre hdl hsm hB0 hcap hj
    have hn6 := hc.2.1
    have hal := (Below.refl W.heap.size W).alloc (Nat.le_refl _) (.cells #[.int .i64 (cell lst 0), .int .i64 (cell lst 1), .int .i64 (cell lst 2), .int .i64 (cell lst 3), .int .i64 (cell lst 4), .int .i64 (cell lst 5)] 68)
    have him : ImF (W.alloc (.cells #[.int .i64 (cell lst 0), .int .i64 (cell lst 1), .int .i64 (cell lst 2), .int .i64 (cell lst 3), .int .i64 (cell lst 4), .int .i64 (cell lst 5)] 68)) W.heap.size (cell lst) := heap_alloc_new _ _
    have hk1 := KeepX.of_below (X := X) hal
    have hj1 := hJ _ _ _ none hj (below_grown0 hal) (fun _ e => by cases e)
    have hc1 := hcap.keep hk1
    refine (callsIn_of_wp Tryd.func35 rfl trivial ?_ rfl)
    simp only [Tryd.ntmps35, List.size_toArray, List.length_cons, List.length_nil, Nat.reduceAdd, Nat.reduceSub, Array.replicate_succ, Array.replicate_zero, List.push_toArray, List.append_toArray, List.nil_append, List.cons_append]
    have heq : ((lst.length : Int) == (cs.length : Int)) = true := by simp; omega
    obtain ⟨d0, d1, d2, d3, d4, d5⟩ := him.cells
    have dn := hc1.x0.n
    have dy := cell_of hc1.y0 (j := 0) rfl
    obtain ⟨fn, tmps, ca, bd, hy, hR⟩ := hY pre lst _ hj1 (by omega)
    have hR2 := RoundIn.any 8 hR
    have hR3 := hR2.mono (R' := fun e W' => ∃ c, e = .returned (.bool c) ∧ ExtI X J Jx pre [lst] W c W') (by
      rintro e W' (⟨rfl, h3, h4⟩ | ⟨rfl, h3, h4⟩)
      · exact ⟨true, rfl, hk1.trans h4, fun _ => h3, fun h => (by cases h)⟩
      · exact ⟨false, rfl, hk1.trans h4, fun h => (by cases h), fun _ => ⟨[lst], List.prefix_rfl, h3⟩⟩)
    clear hR hR2 hY him hc1 hcap hj hal
    gi_wp2_with fail
    refine hR3.mono ?_
    rintro e W' ⟨c, rfl, hext⟩
    gi_wp2
    go_ret
    exact ⟨c, rfl, hext⟩
  | succ d ih =>
    intro lst W pre hdl hsm hB0 hcap hj
    have hn6 := hc.2.1
    have hm6 := hd.2.1
    have hal := (Below.refl W.heap.size W).alloc (Nat.le_refl _) (.cells #[.int .i64 (cell lst 0), .int .i64 (cell lst 1), .int .i64 (cell lst 2), .int .i64 (cell lst 3), .int .i64 (cell lst 4), .int .i64 (cell lst 5)] 68)
    have him : ImF (W.alloc (.cells #[.int .i64 (cell lst 0), .int .i64 (cell lst 1), .int .i64 (cell lst 2), .int .i64 (cell lst 3), .int .i64 (cell lst 4), .int .i64 (cell lst 5)] 68)) W.heap.size (cell lst) := heap_alloc_new _ _
    have hk1 := KeepX.of_below (X := X) hal
    have hj1 := hJ _ _ _ none hj (below_grown0 hal) (fun _ e => by cases e)
    have hc1 := hcap.keep hk1
    have hne : ((lst.length : Int) == (cs.length : Int)) = false := by simp; omega
    have lx : Bx < W.heap.size := hcap.x0.lt
    have ly : By < W.heap.size := heap_lt hcap.y0
    have lz : Bz < W.heap.size := hcap.z0.lt
    have le : Be < W.heap.size := heap_lt hcap.e0
    have hnXi : ¬ X W.heap.size := fun h => by have := hXB _ h; omega
    refine (callsIn_of_wp Tryd.func35 rfl trivial ?_ rfl)
    simp only [Tryd.ntmps35, List.size_toArray, List.length_cons, List.length_nil, Nat.reduceAdd, Nat.reduceSub, Array.replicate_succ, Array.replicate_zero, List.push_toArray, List.append_toArray, List.nil_append, List.cons_append]
    have dn := hc1.x0.n
    have dm := hc1.z0.n
    have HC := Lib.hid hc
    have HD := Lib.hid hd
    have HSM := Lib.hid hsm
    have HC1 := Lib.hid hc1
    have HJ1 := Lib.hid hj1
    have HIM := Lib.hid him
    have HK1 := Lib.hid hk1
    clear hc hd hsm hc1 hj1 him hk1 hj hcap hal
    gi_wp2_with fail
    generalize hW1 : World.alloc W _ = W1 at *
    have hs1 : W1.heap.size = W.heap.size + 1 := by rw [← hW1]; simp
    clear hW1 dn dm hne
    generalize hBi : W.heap.size = Bi at *
    gi_loopw [21] (fun i wr => ∃ (k : Nat) (f : Nat → Nat), k ≤ ds.length ∧ i = .int .i64 k ∧ ImF wr Bi f ∧ (∀ j, j ≠ lst.length → f j = cell lst j) ∧ J (pre ++ smTo cs ds d lst k) wr ∧ KeepX X W wr ∧ CapsI X cs ds l Bx By Bz Be wr) (fun i _ => ds.length - (intOf i).toNat)
    case atStart => exact ⟨0, _, by omega, rfl, HIM.out, fun _ _ => rfl, by simpa [smTo] using HJ1.out, HK1.out, HC1.out⟩
    case round =>
      obtain ⟨k, f, hk, rfl, him, hf, hjr, hkr, hcr⟩ := hrel
      by_cases hlt : k < ds.length
      · have hp6 : lst.length < 6 := by omega
        have p0 : (0 : Int) ≤ (lst.length : Int) := by omega
        have p6 : (lst.length : Int) < 6 := by omega
        have k1 : (k : Int) < (ds.length : Int) := by omega
        have cp := him.cell hp6
        have fp := him.free lst.length
        have HIM2 : Hid (ImF (wr.setCell ⟨Bi, lst.length, none⟩ (.int .i64 k)) Bi (cell (lst ++ [k]))) := Lib.hid (him.set hp6 (fun j hj => by
          rw [cell_snoc]
          split
          · rfl
          · exact (hf j ‹_›).symm))
        have HJ2 : Hid (J (pre ++ smTo cs ds d lst k) (wr.setCell ⟨Bi, lst.length, none⟩ (.int .i64 k))) := Lib.hid (hJB _ _ _ _ _ hB0 hjr)
        have HK2 : Hid (KeepX X W (wr.setCell ⟨Bi, lst.length, none⟩ (.int .i64 k))) := Lib.hid ⟨by simpa using hkr.1, fun b hb hx => (heap_setCell_other _ _ _ _ (by show b ≠ Bi; omega)).trans (hkr.2 b hb hx)⟩
        have HC2 : Hid (CapsI X cs ds l Bx By Bz Be (wr.setCell ⟨Bi, lst.length, none⟩ (.int .i64 k))) := Lib.hid (hcr.set (by omega) (by omega) (by omega) (by omega) _ _)
        clear him hjr hkr hcr
        gi_wp2_with fail
        generalize hW2 : wr.setCell _ _ = W2 at *
        clear hW2
        gi_loopw [10, 28] (fun fi i w2 => ∃ (o : Nat), o ≤ lst.length ∧ i = .int .i64 o ∧ fi = .bool (fitTo cs ds lst.length (cell (lst ++ [k])) k o) ∧ Below W2.heap.size W2 w2) (fun _ i _ => lst.length - (intOf i).toNat)
        case atStart => exact ⟨0, by omega, rfl, rfl, Below.refl _ _⟩
        case round =>
          obtain ⟨o, ho, rfl, rfl, hbo⟩ := hrel
          have HB := Lib.hid hbo
          by_cases hol : o < lst.length
          · have ho6 : o < 6 := by omega
            have hk6 : k < 6 := by omega
            have hg6 : cell (lst ++ [k]) o < 6 := by
              rw [cell_snoc, if_neg (by omega)]
              have := HSM.out (cell lst o) (by simp [cell, List.getD_eq_getElem?_getD, hol])
              omega
            have o0 : (0 : Int) ≤ (o : Int) := by omega
            have o6 : (o : Int) < 6 := by omega
            have o1 : (o : Int) < (lst.length : Int) := by omega
            have g0 : (0 : Int) ≤ (cell (lst ++ [k]) o : Int) := by omega
            have g6 : (cell (lst ++ [k]) o : Int) < 6 := by omega
            have j0 : (0 : Int) ≤ (k : Int) := by omega
            have j6 : (k : Int) < 6 := by omega
            have q1 := (HC2.out.keep (KeepX.of_below hbo)).x0.cell hp6
            have q2 := (HC2.out.keep (KeepX.of_below hbo)).x0.cell ho6
            have q3 := (HC2.out.keep (KeepX.of_below hbo)).z0.cell hk6
            have q4 := (HC2.out.keep (KeepX.of_below hbo)).z0.cell hg6
            have q5 := (HIM2.out.below hbo).cell ho6
            have HA1 : ∀ b, (cell cs lst.length).testBit o = b → Hid (∀ w, Calls Tryd.prog 36 #[.int .u64 (cell cs lst.length), .int .i64 o] w fun e w' => e = .returned (.bool b) ∧ w = w') := fun b h => Lib.hid (has_known h (cell_64 HC.out _) (by omega))
            have HB1 : ∀ b, (cell ds k).testBit (cell (lst ++ [k]) o) = b → Hid (∀ w, Calls Tryd.prog 36 #[.int .u64 (cell ds k), .int .i64 (cell (lst ++ [k]) o)] w fun e w' => e = .returned (.bool b) ∧ w = w') := fun b h => Lib.hid (has_known h (cell_64 HD.out _) (by omega))
            have HA2 : ∀ b, (cell cs o).testBit lst.length = b → Hid (∀ w, Calls Tryd.prog 36 #[.int .u64 (cell cs o), .int .i64 lst.length] w fun e w' => e = .returned (.bool b) ∧ w = w') := fun b h => Lib.hid (has_known h (cell_64 HC.out _) (by omega))
            have HB2 : ∀ b, (cell ds (cell (lst ++ [k]) o)).testBit k = b → Hid (∀ w, Calls Tryd.prog 36 #[.int .u64 (cell ds (cell (lst ++ [k]) o)), .int .i64 k] w fun e w' => e = .returned (.bool b) ∧ w = w') := fun b h => Lib.hid (has_known h (cell_64 HD.out _) (by omega))
            have hf1 : fit1 cs ds lst.length (cell (lst ++ [k])) k o = ((!(cell cs lst.length).testBit o || (cell ds k).testBit (cell (lst ++ [k]) o)) && (!(cell cs o).testBit lst.length || (cell ds (cell (lst ++ [k]) o)).testBit k)) := rfl
            generalize hF : fitTo cs ds lst.length (cell (lst ++ [k])) k o = F at *
            generalize hG : fit1 cs ds lst.length (cell (lst ++ [k])) k o = G at *
            generalize hA1 : (cell cs lst.length).testBit o = a1 at *
            generalize hB1 : (cell ds k).testBit (cell (lst ++ [k]) o) = b1 at *
            generalize hA2 : (cell cs o).testBit lst.length = a2 at *
            generalize hB2 : (cell ds (cell (lst ++ [k]) o)).testBit k = b2 at *
            have HF := Lib.hid hF
            have HG := Lib.hid hG
            replace HA1 := HA1 _ rfl
            replace HB1 := HB1 _ rfl
            replace HA2 := HA2 _ rfl
            replace HB2 := HB2 _ rfl
            clear hbo hF hG hA1 hB1 hA2 hB2 hf
            clear HIM2 HJ2 HK2
            have HC3 := Lib.hid HC2
            clear HC2 HC1
            generalize cell (lst ++ [k]) o = g at *
            generalize cell cs lst.length = s1 at *
            generalize cell cs o = s2 at *
            generalize cell ds k = s3 at *
            generalize cell ds g = s4 at *
            cases F
            · subst hf1
              gi_wp2_with fail
              refine wpIn_wide.2 ?_
              refine wp_region_quiet_lit (by kernel_rfl) (by kernel_rfl) ?_
              repeat (go_big_quiet_step (fail))
              refine wpQuiet_nil ?_
              intro _ hw'
              obtain ⟨nq, hw''⟩ := hw'
              subst hw''
              gi_wp2
              go_roundw
              case rel => exact ⟨o + 1, by omega, by go_num, by simp only [fitTo, HF.out, Bool.false_and], below_to HB.out HB.out.size (below_drewN _ _)⟩
              case measure => simp [intOf]; omega
            · cases a1
              · cases a2
                · obtain rfl : G = true := hf1
                  gi_wp2_with fail
                  refine wpIn_wide.2 ?_
                  refine wp_region_quiet_lit (by kernel_rfl) (by kernel_rfl) ?_
                  repeat (go_big_quiet_step (fail))
                  quiet_step ((go_at_call 36; exact (HA1.out _).mono (fun e w' h => ⟨h.1, _, h.2.symm⟩)))
                  repeat (go_big_quiet_step (fail))
                  quiet_step ((go_at_call 36; exact (HA2.out _).mono (fun e w' h => ⟨h.1, _, h.2.symm⟩)))
                  repeat (go_big_quiet_step (fail))
                  refine wpQuiet_nil ?_
                  intro _ hw'
                  obtain ⟨nq, hw''⟩ := hw'
                  subst hw''
                  gi_wp2
                  go_roundw
                  case rel => exact ⟨o + 1, by omega, by go_num, by simp only [fitTo, HF.out, HG.out, Bool.true_and], below_to HB.out HB.out.size (below_drewN _ _)⟩
                  case measure => simp [intOf]; omega
                · obtain rfl : G = b2 := by rw [hf1]; simp
                  clear hf1
                  gi_wp2_with fail
                  refine wpIn_wide.2 ?_
                  refine wp_region_quiet_lit (by kernel_rfl) (by kernel_rfl) ?_
                  repeat (go_big_quiet_step (fail))
                  quiet_step ((go_at_call 36; exact (HA1.out _).mono (fun e w' h => ⟨h.1, _, h.2.symm⟩)))
                  repeat (go_big_quiet_step (fail))
                  quiet_step ((go_at_call 36; exact (HA2.out _).mono (fun e w' h => ⟨h.1, _, h.2.symm⟩)))
                  repeat (go_big_quiet_step (fail))
                  quiet_step ((go_at_call 36; exact (HB2.out _).mono (fun e w' h => ⟨h.1, _, h.2.symm⟩)))
                  repeat (go_big_quiet_step (fail))
                  refine wpQuiet_nil ?_
                  intro _ hw'
                  obtain ⟨nq, hw''⟩ := hw'
                  subst hw''
                  gi_wp2
                  go_roundw
                  case rel => exact ⟨o + 1, by omega, by go_num, by simp only [fitTo, HF.out, HG.out, Bool.true_and], below_to HB.out HB.out.size (below_drewN _ _)⟩
                  case measure => simp [intOf]; omega
              · cases b1
                · obtain rfl : G = false := hf1
                  gi_wp2_with fail
                  refine wpIn_wide.2 ?_
                  refine wp_region_quiet_lit (by kernel_rfl) (by kernel_rfl) ?_
                  repeat (go_big_quiet_step (fail))
                  quiet_step ((go_at_call 36; exact (HA1.out _).mono (fun e w' h => ⟨h.1, _, h.2.symm⟩)))
                  repeat (go_big_quiet_step (fail))
                  quiet_step ((go_at_call 36; exact (HB1.out _).mono (fun e w' h => ⟨h.1, _, h.2.symm⟩)))
                  repeat (go_big_quiet_step (fail))
                  refine wpQuiet_nil ?_
                  intro _ hw'
                  obtain ⟨nq, hw''⟩ := hw'
                  subst hw''
                  gi_wp2
                  go_roundw
                  case rel => exact ⟨o + 1, by omega, by go_num, by simp only [fitTo, HF.out, HG.out, Bool.true_and], below_to HB.out HB.out.size (below_drewN _ _)⟩
                  case measure => simp [intOf]; omega
                · cases a2
                  · obtain rfl : G = true := hf1
                    gi_wp2_with fail
                    refine wpIn_wide.2 ?_
                    refine wp_region_quiet_lit (by kernel_rfl) (by kernel_rfl) ?_
                    repeat (go_big_quiet_step (fail))
                    quiet_step ((go_at_call 36; exact (HA1.out _).mono (fun e w' h => ⟨h.1, _, h.2.symm⟩)))
                    repeat (go_big_quiet_step (fail))
                    quiet_step ((go_at_call 36; exact (HB1.out _).mono (fun e w' h => ⟨h.1, _, h.2.symm⟩)))
                    repeat (go_big_quiet_step (fail))
                    quiet_step ((go_at_call 36; exact (HA2.out _).mono (fun e w' h => ⟨h.1, _, h.2.symm⟩)))
                    repeat (go_big_quiet_step (fail))
                    refine wpQuiet_nil ?_
                    intro _ hw'
                    obtain ⟨nq, hw''⟩ := hw'
                    subst hw''
                    gi_wp2
                    go_roundw
                    case rel => exact ⟨o + 1, by omega, by go_num, by simp only [fitTo, HF.out, HG.out, Bool.true_and], below_to HB.out HB.out.size (below_drewN _ _)⟩
                    case measure => simp [intOf]; omega
                  · obtain rfl : G = b2 := by rw [hf1]; simp
                    clear hf1
                    gi_wp2_with fail
                    refine wpIn_wide.2 ?_
                    refine wp_region_quiet_lit (by kernel_rfl) (by kernel_rfl) ?_
                    repeat (go_big_quiet_step (fail))
                    quiet_step ((go_at_call 36; exact (HA1.out _).mono (fun e w' h => ⟨h.1, _, h.2.symm⟩)))
                    repeat (go_big_quiet_step (fail))
                    quiet_step ((go_at_call 36; exact (HB1.out _).mono (fun e w' h => ⟨h.1, _, h.2.symm⟩)))
                    repeat (go_big_quiet_step (fail))
                    quiet_step ((go_at_call 36; exact (HA2.out _).mono (fun e w' h => ⟨h.1, _, h.2.symm⟩)))
                    repeat (go_big_quiet_step (fail))
                    quiet_step ((go_at_call 36; exact (HB2.out _).mono (fun e w' h => ⟨h.1, _, h.2.symm⟩)))
                    repeat (go_big_quiet_step (fail))
                    refine wpQuiet_nil ?_
                    intro _ hw'
                    obtain ⟨nq, hw''⟩ := hw'
                    subst hw''
                    gi_wp2
                    go_roundw
                    case rel => exact ⟨o + 1, by omega, by go_num, by simp only [fitTo, HF.out, HG.out, Bool.true_and], below_to HB.out HB.out.size (below_drewN _ _)⟩
                    case measure => simp [intOf]; omega
          · have hop : o = lst.length := by omega
            subst hop
            have hkk := KeepX.of_below (X := X) hbo
            have HIM4 := Lib.hid (HIM2.out.below hbo)
            have HJ4 := Lib.hid (hJ _ _ _ none HJ2.out (below_grown0 hbo) (fun _ e => by cases e))
            have HK4 := Lib.hid (HK2.out.trans hkk)
            have HC4 := Lib.hid (HC2.out.keep hkk)
            have hsz4 : B0 ≤ wr.heap.size := by
              have := HK4.out.1
              omega
            have hfb : fitTo cs ds lst.length (cell (lst ++ [k])) k lst.length = fitB cs ds lst k := rfl
            rw [hfb]
            clear hfb hbo hkk
            rcases hF : fitB cs ds lst k with _ | _
            · have HF := Lib.hid hF
              clear hF
              gi_wp2_with fail
              refine ⟨fun _ h => (by cases h), ?_⟩
              gi_wp2_with fail
              go_roundw
              case rel => exact ⟨k + 1, _, by omega, by go_num, HIM4.out, fun j hj => by rw [cell_snoc, if_neg hj], by rw [smTo_succ, HF.out]; simpa using HJ4.out, HK4.out, HC4.out⟩
              case measure => simp [intOf]; omega
            · have HF := Lib.hid hF
              have e0 := cell_of HC4.out.e0 (j := 0) rfl
              obtain ⟨d0, d1, d2, d3, d4, d5⟩ := HIM4.out.cells
              have hih := CallsIn.any 8 (ih (lst ++ [k]) wr (pre ++ smTo cs ds d lst k) (by simp; omega) (fun x hx => by
                rcases List.mem_append.1 hx with hx | hx
                · exact HSM.out x hx
                · rw [List.mem_singleton.1 hx]; exact hlt) hsz4 HC4.out HJ4.out)
              rw [show (((lst ++ [k]).length : Nat) : Int) = (lst.length : Int) + 1 by simp] at hih
              have HIH := Lib.hid hih
              clear hih hF ih
              gi_wp2_with fail
              refine ⟨trivial, HIH.out.mono ?_⟩
              rintro e W' ⟨c, rfl, hext⟩
              have HE := Lib.hid hext
              clear hext d0 d1 d2 d3 d4 d5 e0 cp fp
              cases c
              · gi_wp2_with fail
                go_ret
                obtain ⟨g1, _, g3⟩ := HE.out
                obtain ⟨zs, g4, g5⟩ := g3 rfl
                refine ⟨false, rfl, HK4.out.trans g1, fun h => (by cases h), fun _ => ⟨smTo cs ds d lst k ++ zs, ?_, by rw [← List.append_assoc]; exact g5⟩⟩
                refine List.IsPrefix.trans ?_ (smTo_le cs ds d lst (ds.length - (k + 1)) (k + 1) |>.trans (by rw [show k + 1 + (ds.length - (k + 1)) = ds.length by omega]; exact List.prefix_rfl))
                rw [smTo_succ, if_pos HF.out, List.prefix_append_right_inj]; exact g4
              · gi_wp2_with fail
                obtain ⟨g1, g2, _⟩ := HE.out
                have g4 := g2 rfl
                go_roundw
                case rel => exact ⟨k + 1, _, by omega, by go_num, g1.block HIM4.out hnXi, fun j hj => by rw [cell_snoc, if_neg hj], by rw [smTo_succ, if_pos HF.out, ← List.append_assoc]; exact g4, HK4.out.trans g1, HC4.out.keep g1⟩
                case measure => simp [intOf]; omega
      · have hkn : k = ds.length := by omega
        have HK := Lib.hid hkn
        clear hkn
        gi_wp2
        go_ret
        refine ⟨true, rfl, hkr, fun _ => ?_, fun h => (by cases h)⟩
        rw [HK.out] at hjr
        exact hjr
end Go.Proofs.YtfhcbaamibipcaaDoor
