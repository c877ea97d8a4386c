/- ply: the number of the chains that end at a point. -/
import Derived.Test.YtfhcbaamibipcaaDoorPNum
import Derived.Test.YtfhcbaamibipcaaDoorMap
set_option linter.unusedVariables false
set_option linter.unusedSimpArgs false
namespace Go.Proofs.YtfhcbaamibipcaaDoor
open Go.RowKit Go.Shelf
attribute [local go_sem] Oper.semAt_some

/-! ### plain: a sum over the points of a set -/
theorem sumTo_list (h : Nat → Int) : ∀ n, sumTo h n = ((List.range n).map h).sum
  | 0 => rfl
  | n + 1 => by unfold sumTo; rw [sumTo_list h n, List.range_succ, List.map_append, List.sum_append]; simp
theorem sumTo_far {h : Nat → Int} {n : Nat} : ∀ d, (∀ i, n ≤ i → h i = 0) → sumTo h (n + d) = sumTo h n
  | 0, _ => rfl
  | d + 1, hz => by
    show sumTo h (n + d) + h (n + d) = sumTo h n
    rw [sumTo_far d hz, hz _ (by omega)]; omega
theorem filter_sum (P : Nat → Bool) (h : Nat → Int) : ∀ l : List Nat, ((l.filter P).map h).sum = (l.map fun q => if P q = true then h q else 0).sum
  | [] => rfl
  | a :: l => by
    by_cases hp : P a = true
    · rw [List.filter_cons_of_pos hp]; simp [hp, filter_sum P h l]
    · rw [List.filter_cons_of_neg hp]; simp [hp, filter_sum P h l]
theorem sumTo_bits {S n : Nat} (hn : n ≤ 6) (hS : S < 2 ^ n) (h : Nat → Int) : sumTo (fun q => if S.testBit q = true then h q else 0) n = ((bitsOf S).map h).sum := by
  unfold bitsOf
  rw [filter_sum, ← sumTo_list, show 6 = n + (6 - n) by omega]
  exact (sumTo_far _ (fun i hi => by rw [bit_big hS hi]; simp)).symm

def dnV (cs : List Nat) (p : Nat) : Int := dnF cs 64 p
theorem dnV_step {cs : List Nat} (hs : spaceB cs = true) (hp : plainB cs = true) (hc : Codes cs) {p : Nat} (hpn : p < cs.length) : dnV cs p = 1 - ((bitsOf (diff (cell cs p) (2 ^ p))).map (dnV cs)).sum := by
  have h1 := dn_stable hs hp 64 p hpn (cell_64 hc p)
  unfold dnV
  rw [← h1]
  show 1 - sumTo (fun q => if ltP cs q p = true then dnF cs 64 q else 0) cs.length = _
  congr 1
  rw [← sumTo_bits hc.2.1 (diff_lt (hc.2.2 p))]
  refine sumTo_same _ fun q _ => ?_
  have : ltP cs q p = (diff (cell cs p) (2 ^ p)).testBit q := by
    rw [Bool.eq_iff_iff, without_bit]
    unfold ltP
    rw [Bool.and_eq_true, decide_eq_true_eq]
    exact And.comm
  rw [this]
theorem wrap_sub (a b : Int) : wrap64 (wrap64 a - wrap64 b) = wrap64 (a - b) := by unfold wrap64; omega
theorem wrap_add (a b : Int) : wrap64 (wrap64 a + wrap64 b) = wrap64 (a + b) := by unfold wrap64; omega

/-! ### the walk -/
def intKey (n : Int) : Value := .int .i64 n
theorem findNow_int (q : IntKind) (a : Int) : ∀ (es : List MapEntry) (ks : List Int) (i : Nat), es.map (·.key) = ks.map (Value.int q) → Instr.findNow (.int q) (.int q a) es i = some (findSpec a ks es i)
  | [], [], _, _ => rfl
  | e :: es, k :: ks, i, h => by
    simp only [List.map_cons, List.cons.injEq] at h
    obtain ⟨h1, h2⟩ := h
    have ih := findNow_int q a es ks (i + 1) h2
    by_cases hk : a = k
    · subst hk; simp [Instr.findNow, Instr.sameNow, h1, findSpec]
    · have hk2 : (a == k) = false := by simpa using hk
      simp [Instr.findNow, Instr.sameNow, h1, findSpec, hk, hk2, ih]
  | [], k :: ks, _, h => by simp at h
  | e :: es, [], _, h => by simp at h
theorem key_int : KeyOK 3 intKey where
  check := fun a em w => by kernel_rfl
  find := fun a es ks w h => by
    unfold Instr.findKey
    rw [Sem.run_bind, run_underlying Tryd.underlying3]
    simp only [Result.andThen_ok]
    rw [show Instr.findNow (.int .i64) (intKey a) es 0 = some (findSpec a ks es 0) from findNow_int .i64 a es ks 0 h]
    rfl

/-- all but the map's block is as it was -/
structure KeepM (bm : Nat) (W W' : World) : Prop where
  os : W'.os = W.os
  tape : W'.tape = W.tape
  output : W'.output = W.output
  size : W.heap.size ≤ W'.heap.size
  block : ∀ k, k < W.heap.size → k ≠ bm → W'.heap[k]? = W.heap[k]?
theorem KeepM.refl (bm : Nat) (W : World) : KeepM bm W W := ⟨rfl, rfl, rfl, Nat.le_refl _, fun _ _ _ => rfl⟩
theorem KeepM.trans {bm : Nat} {A B C : World} (h : KeepM bm A B) (k : KeepM bm B C) : KeepM bm A C := ⟨k.os.trans h.os, k.tape.trans h.tape, k.output.trans h.output, Nat.le_trans h.size k.size, fun i hi hne => (k.block i (Nat.lt_of_lt_of_le hi h.size) hne).trans (h.block i hi hne)⟩
theorem KeepM.of_below {bm : Nat} {A B : World} (h : Below A.heap.size A B) : KeepM bm A B := ⟨h.os, h.tape, h.output, h.size, fun k hk _ => h.block k hk⟩
theorem KeepM.of_grown {bm : Nat} {A B : World} (h : A.grownBy B (some bm)) : KeepM bm A B := ⟨h.os, h.tape, h.output, h.size, fun k hk hne => h.block k hk (fun e => hne (Option.some.inj e))⟩
theorem KeepM.below {bm B : Nat} {W W' : World} (h : KeepM bm W W') (hB : B ≤ bm) (hW : B ≤ W.heap.size) : Below B W W' := ⟨h.os, h.tape, h.output, h.size, fun k hk => h.block k (by omega) (by omega)⟩

structure CntW (cs : List Nat) (bm Bk Bx Bf : Nat) (W : World) (kvs : List (Int × Value)) : Prop where
  k : W.heap[Bk]? = some (.cells #[.map (some bm)] 52)
  m : MapIs intKey W bm kvs
  nd : (kvs.map (·.1)).Nodup
  vals : ∀ x ∈ kvs, ∃ q : Nat, q < cs.length ∧ x = ((q : Int), .int .i64 (wrap64 (dnV cs q)))
  x : SpF W Bx cs.length (cell cs)
  f : W.heap[Bf]? = some (.cells #[.func (.func 24) #[] #[.pointer (some ⟨Bk, 0, none⟩), .pointer (some ⟨Bx, 0, none⟩), .pointer (some ⟨Bf, 0, none⟩)]] 53)
  tab : Tab W
theorem CntW.to {cs : List Nat} {bm Bk Bx Bf : Nat} {W W' : World} {kvs : List (Int × Value)} (h : CntW cs bm Bk Bx Bf W kvs) (hc : ∀ (k : Nat) (c : Array Value) (t : TypeId) (fr : Nat × Nat), W.heap[k]? = some (.cells c t fr) → W'.heap[k]? = some (.cells c t fr)) (hm : W'.heap[bm]? = W.heap[bm]?) (hg : W'.heap[1]? = W.heap[1]?) : CntW cs bm Bk Bx Bf W' kvs :=
  ⟨hc _ _ _ _ h.k, h.m.of_block hm, h.nd, h.vals, hc _ _ _ _ h.x, hc _ _ _ _ h.f, h.tab.block hg⟩
theorem CntW.below {cs : List Nat} {bm Bk Bx Bf : Nat} {W W' : World} {kvs : List (Int × Value)} (h : CntW cs bm Bk Bx Bf W kvs) (hb : Below W.heap.size W W') : CntW cs bm Bk Bx Bf W' kvs := h.to (fun k c t fr hk => (hb.block k (heap_lt hk)).trans hk) (hb.block _ h.m.lt) (hb.block _ h.tab.lt)
theorem CntW.ne {cs : List Nat} {bm Bk Bx Bf : Nat} {W : World} {kvs : List (Int × Value)} (h : CntW cs bm Bk Bx Bf W kvs) {k : Nat} {c : Array Value} {t : TypeId} {fr : Nat × Nat} (hk : W.heap[k]? = some (.cells c t fr)) : k ≠ bm := fun e => by
  obtain ⟨es, clock, h1, _⟩ := h.m
  rw [e, h1] at hk; cases hk
theorem CntW.setCell {cs : List Nat} {bm Bk Bx Bf : Nat} {W : World} {kvs : List (Int × Value)} (h : CntW cs bm Bk Bx Bf W kvs) {b : Nat} (h1 : b ≠ bm) (h2 : b ≠ Bk) (h3 : b ≠ Bx) (h4 : b ≠ Bf) (h5 : b ≠ 1) (v : Value) : CntW cs bm Bk Bx Bf (W.setCell ⟨b, 0, none⟩ v) kvs :=
  ⟨set_other h.k (Ne.symm h2), h.m.of_block (heap_setCell_other _ _ _ _ (Ne.symm h1)), h.nd, h.vals, h.x.other (Ne.symm h3), set_other h.f (Ne.symm h4), h.tab.block (heap_setCell_other _ _ _ _ (Ne.symm h5))⟩
/-- one entry more -/
theorem CntW.add {cs : List Nat} {bm Bk Bx Bf : Nat} {W W' : World} {kvs : List (Int × Value)} (h : CntW cs bm Bk Bx Bf W kvs) (hg : W.grownBy W' (some bm)) {p : Nat} (hp : p < cs.length) (hno : (p : Int) ∉ kvs.map (·.1)) (hm : MapIs intKey W' bm (kvs ++ [((p : Int), .int .i64 (wrap64 (dnV cs p)))])) (hng : 1 ≠ bm) :
    CntW cs bm Bk Bx Bf W' (kvs ++ [((p : Int), .int .i64 (wrap64 (dnV cs p)))]) := by
  have old : ∀ {k : Nat} {c : Array Value} {t : TypeId} {fr : Nat × Nat}, W.heap[k]? = some (.cells c t fr) → W'.heap[k]? = some (.cells c t fr) := fun {k c t fr} hk => (hg.block k (heap_lt hk) (fun e => h.ne hk (Option.some.inj e))).trans hk
  refine ⟨old h.k, hm, ?_, fun x hx => ?_, old h.x, old h.f, h.tab.block (hg.block _ h.tab.lt (fun e => hng (Option.some.inj e)))⟩
  · rw [List.map_append, List.nodup_append]
    exact ⟨h.nd, by simp, fun a ha b hb => by simp at hb; subst hb; rintro rfl; exact hno ha⟩
  · rcases List.mem_append.1 hx with hx | hx
    · exact h.vals x hx
    · exact ⟨p, hp, List.mem_singleton.1 hx⟩

/-- what keys have come belong to points of smaller cells -/
def NewKeys (cs : List Nat) (kvs kvs' : List (Int × Value)) (b : Nat) : Prop := ∀ a ∈ kvs'.map (·.1), a ∈ kvs.map (·.1) ∨ ∃ q : Nat, a = (q : Int) ∧ cell cs q < b
theorem NewKeys.refl (cs : List Nat) (kvs : List (Int × Value)) (b : Nat) : NewKeys cs kvs kvs b := fun a h => .inl h
theorem NewKeys.trans {cs : List Nat} {k1 k2 k3 : List (Int × Value)} {b c : Nat} (h : NewKeys cs k1 k2 b) (k : NewKeys cs k2 k3 c) (hcb : c ≤ b) : NewKeys cs k1 k3 b := fun a ha => by
  rcases k a ha with h1 | ⟨q, h1, h2⟩
  · exact h a h1
  · exact .inr ⟨q, h1, by omega⟩
set_option maxRecDepth 100000 in
set_option maxHeartbeats 3200000 in
theorem count_any (cs : List Nat) (hs : spaceB cs = true) (hp : plainB cs = true) (hc : Codes cs) (bm Bk Bx Bf : Nat) (hng : 1 ≠ bm) : ∀ (k p : Nat) (W : World) (kvs : List (Int × Value)), cell cs p < k → p < cs.length → CntW cs bm Bk Bx Bf W kvs →
    Calls Tryd.prog 24 #[.int .i64 p, .pointer (some ⟨Bk, 0, none⟩), .pointer (some ⟨Bx, 0, none⟩), .pointer (some ⟨Bf, 0, none⟩)] W fun e W' => e = .returned (.int .i64 (wrap64 (dnV cs p))) ∧ (∃ kvs', CntW cs bm Bk Bx Bf W' kvs' ∧ NewKeys cs kvs kvs' (cell cs p + 1)) ∧ KeepM bm W W' := by
  intro k
  induction k with
  | zero => intro p W kvs h; omega
  | succ k ih =>
    intro p W kvs hk hpn hcw
    have hn6 := hc.2.1
    have c0 := cell_of hcw.k (j := 0) rfl
    by_cases hin : (p : Int) ∈ kvs.map (·.1)
    · have hv : ((p : Int), Value.int .i64 (wrap64 (dnV cs p))) ∈ kvs := by
        obtain ⟨x, hx, he⟩ := List.mem_map.1 hin
        obtain ⟨q, hq, rfl⟩ := hcw.vals x hx
        have he' : (q : Int) = (p : Int) := he
        have : q = p := by omega
        subst this; exact hx
      have HV := Lib.hid hv
      have HIN := Lib.hid hin
      have HC := Lib.hid hcw
      clear hv hin hcw hs hp ih
      refine (callsIn_wide (n := 20)).1 ?_
      refine callsIn_of_wp_marks Tryd.func24 rfl trivial ?_ rfl
      simp only [Tryd.ntmps24, List.size_toArray, List.length_cons, List.length_nil, Nat.reduceAdd, Nat.reduceSub, Array.replicate_succ, Array.replicate_zero, List.push_toArray, List.append_toArray, List.nil_append, List.cons_append]
      gi_wp2_with (gi_at_lookup; refine map_lookup_yes_in rfl _ _ _ rfl key_int Tryd.underlying52 rfl HC.out.m (p : Int) _ rfl HC.out.nd HV.out ?_)
      refine leave_marks (B := W.heap.size) [] W.heap.size _ trivial fun w' hs => ?_
      refine ⟨_, results_tmp rfl _ _ _, rfl, ⟨kvs, HC.out.below hs.below, NewKeys.refl _ _ _⟩, KeepM.of_below hs.below⟩
    · have HIN := Lib.hid hin
      have hstep := dnV_step hs hp hc hpn
      have hpn6 : p < 6 := by omega
      have h64 := cell_64 hc p
      have hd64 : diff (cell cs p) (2 ^ p) < 64 := diff_lt (k := 6) h64
      have hpts : ∀ x, (diff (cell cs p) (2 ^ p)).testBit x = true → x < cs.length ∧ cell cs x < k := fun x hx => by
        obtain ⟨h1, h2⟩ := (without_bit _ _ _).1 hx
        have hxn := set_lt (hc.2.2 p) h1
        have hl := lt_less hs hp hxn hpn (by unfold ltP; rw [Bool.and_eq_true, decide_eq_true_eq]; exact ⟨h2, h1⟩)
        exact ⟨hxn, by omega⟩
      have hptl : ∀ x, (diff (cell cs p) (2 ^ p)).testBit x = true → cell cs x + 1 ≤ cell cs p := fun x hx => by
        obtain ⟨h1, h2⟩ := (without_bit _ _ _).1 hx
        exact lt_less hs hp (set_lt (hc.2.2 p) h1) hpn (by unfold ltP; rw [Bool.and_eq_true, decide_eq_true_eq]; exact ⟨h2, h1⟩)
      have HPTL := Lib.hid hptl
      have HSTEP := Lib.hid hstep
      have HPTS := Lib.hid hpts
      have HC := Lib.hid hcw
      have hbm : bm < W.heap.size := hcw.m.lt
      have hsh := shl_num p hpn6
      have hpw := pow_lt64 hpn6
      have hz : (zeroValue 3).run Tryd.prog W = .ok (.int .i64 0) W := by kernel_rfl
      have HZ := Lib.hid hz
      have IH := Lib.hid ih
      have hdf : bits .andNot .u64 (cell cs p : Int) ((2 : Int) ^ p) = ((diff (cell cs p) (2 ^ p) : Nat) : Int) := by
        have := u64_andNot (cell cs p) (2 ^ p) (by omega) (by omega)
        rwa [pow_int] at this
      clear hin hcw hs hp ih hstep hpts hptl hc hz
      refine (callsIn_wide (n := 20)).1 ?_
      refine callsIn_of_wp_marks Tryd.func24 rfl trivial ?_ rfl
      simp only [Tryd.ntmps24, List.size_toArray, List.length_cons, List.length_nil, Nat.reduceAdd, Nat.reduceSub, Array.replicate_succ, Array.replicate_zero, List.push_toArray, List.append_toArray, List.nil_append, List.cons_append]
      gi_wp2_with (gi_at_lookup; refine map_lookup_no_in rfl _ _ _ rfl key_int Tryd.underlying52 HZ.out rfl HC.out.m (p : Int) rfl HIN.out ?_)
      have hal : Below W.heap.size W (W.alloc (.cells #[.int .i64 1] 3)) := (Below.refl _ _).alloc (Nat.le_refl _) _
      have s8 := heap_alloc_new W (.cells #[.int .i64 1] 3)
      have hc1 := HC.out.below hal
      have hsz1 : (W.alloc (.cells #[.int .i64 1] 3)).heap.size = W.heap.size + 1 := by simp
      generalize hW1 : World.alloc W _ = W1 at *
      clear hW1
      have q1 := hc1.x.cell (p := p) hpn6
      have p0 : (0 : Int) ≤ (p : Int) := by omega
      have p6 : (p : Int) < 6 := by omega
      have HAL := Lib.hid hal
      have HC1 := Lib.hid hc1
      have HS8 := Lib.hid s8
      clear hal hc1 s8 c0
      refine region_then 7 rfl rfl rfl (by kernel_rfl) (by kernel_rfl) (by kernel_rfl) (by kernel_rfl) (by kernel_rfl) (by kernel_rfl) ?_
      dsimp only [List.dropLast]
      repeat (gi_big_quiet_step (fail))
      refine wpQuietIn_nil ?_
      intro _ hw'
      obtain ⟨nq, hw''⟩ := hw'
      subst hw''
      have hdr := below_drewN W1 nq
      have hc2 := HC1.out.below hdr
      have s8 := (heap_drewN W1 nq _).trans HS8.out
      have hb2 := below_to HAL.out HAL.out.size hdr
      have hsz2 := size_drewN W1 nq
      rw [hsz1] at hsz2
      generalize hW2 : W1.drewN nq = W2 at *
      clear hW2 hdr q1 HAL HC1 HS8 hsz1
      go_simp
      refine ⟨trivial, (callsIn_wide.2 (points_any (diff (cell cs p) (2 ^ p)) _)).mono ?_⟩
      rintro e w2 ⟨rfl, rfl⟩
      have hal : Below W2.heap.size W2 (W2.alloc (.cells #[.int .u64 (diff (cell cs p) (2 ^ p) : Nat)] 32)) := (Below.refl _ _).alloc (Nat.le_refl _) _
      have hBs := heap_alloc_new W2 (.cells #[.int .u64 (diff (cell cs p) (2 ^ p) : Nat)] 32)
      have hc3 := hc2.below hal
      have t8 := (hal.block _ (heap_lt s8)).trans s8
      have hb3 := below_to hb2 hb2.size hal
      have hsz3 : (W2.alloc (.cells #[.int .u64 (diff (cell cs p) (2 ^ p) : Nat)] 32)).heap.size = W.heap.size + 2 := by simp [hsz2]
      rw [hsz2] at hBs ⊢
      generalize hW3 : World.alloc W2 _ = W3 at *
      clear hW3 hal hsz2 hc2 s8 hb2
      gi_wp2_with fail
      have lk := heap_lt HC.out.k
      have lx := HC.out.x.lt
      have lf := heap_lt HC.out.f
      have lt := HC.out.tab.lt
      refine range_pts (gf := 37) (Bs := W.heap.size + 1) (s := diff (cell cs p) (2 ^ p)) rfl (enters_of Tryd.func37 (by kernel_rfl) rfl)
        (points_given (diff (cell cs p) (2 ^ p)) (W.heap.size + 1) hd64 19 (by omega) W3 (by omega)) hBs rfl
        (fun pre V => (∃ kvs', CntW cs bm Bk Bx Bf V kvs' ∧ NewKeys cs kvs kvs' (cell cs p)) ∧ V.heap[W.heap.size]? = some (.cells #[.int .i64 (wrap64 (1 - (pre.map (dnV cs)).sum))] 3) ∧ KeepM bm W V ∧ W.heap.size + 2 ≤ V.heap.size)
        (fun c pre W => False) ?a1 ?hI (fun c s W W' row h _ _ => h) ?hIB (fun pre W h => h.1.elim fun _ h => h.1.tab) ⟨⟨_, hc3, NewKeys.refl _ _ _⟩, by rw [show wrap64 (1 - (([] : List Nat).map (dnV cs)).sum) = 1 by simp [wrap64]]; exact t8, KeepM.of_below hb3, by omega⟩ ?assign ?body ?done ?stop
      case assign =>
        intro l x W K hK
        gi_wp2
        exact hK
      case hI =>
        rintro s V V' row ⟨⟨kvs', h1, hnk⟩, h2, h3, h4⟩ hg hr
        refine ⟨⟨kvs', h1.to (fun k c t fr hk2 => own_cells hg hr hk2) (hg.block _ h1.m.lt (fun e => by have := (hr _ e.symm).1; omega)) (hg.block _ h1.tab.lt (fun e => by have := (hr _ e.symm).1; omega)), hnk⟩, own_block hg hr (by omega) h2, ⟨hg.os.trans h3.os, hg.tape.trans h3.tape, hg.output.trans h3.output, Nat.le_trans h3.size hg.size, fun k hk2 hne => ?_⟩, Nat.le_trans h4 hg.size⟩
        exact (hg.block k (Nat.lt_of_lt_of_le hk2 h3.size) (fun e => by have := (hr _ e.symm).1; omega)).trans (h3.block k hk2 hne)
      case hIB =>
        rintro s V v ⟨⟨kvs', h1, hnk⟩, h2, h3, h4⟩
        refine ⟨⟨kvs', h1.setCell (by omega) (by omega) (by omega) (by omega) (by omega) v, hnk⟩, set_other h2 (by omega), ⟨h3.os, h3.tape, h3.output, by simpa using h3.size, fun k hk2 hne => ?_⟩, by simpa using h4⟩
        exact (heap_setCell_other _ _ _ _ (by show k ≠ W.heap.size + 1; omega)).trans (h3.block k hk2 hne)
      case body =>
        rintro l pre x V hl ⟨⟨kvs', h1, hnk⟩, h2, h3, h4⟩ hpx
        obtain ⟨hxb, hx6⟩ := pre_bit hd64 hpx
        obtain ⟨hxn, hxk⟩ := HPTS.out x hxb
        have HXP : Hid (cell cs x + 1 ≤ cell cs p) := Lib.hid (HPTL.out x hxb)
        have hsum : wrap64 (wrap64 (1 - (pre.map (dnV cs)).sum) - wrap64 (dnV cs x)) = wrap64 (1 - ((pre ++ [x]).map (dnV cs)).sum) := by
          rw [wrap_sub, List.map_append, List.sum_append]
          congr 1
          simp only [List.map_cons, List.map_nil, List.sum_cons, List.sum_nil]
          omega
        have HSUM := Lib.hid hsum
        clear hsum
        gi_wp2_with fail
        refine region_thenC (C := fun V' => (∃ kv, CntW cs bm Bk Bx Bf V' kv ∧ NewKeys cs kvs kv (cell cs p)) ∧ KeepM bm V V') 5 rfl rfl rfl (by kernel_rfl) (by kernel_rfl) (by kernel_rfl) (by kernel_rfl) (by kernel_rfl) (by kernel_rfl) ⟨⟨_, h1.below (Below.refl _ _).drew, hnk⟩, KeepM.of_below (Below.refl _ _).drew⟩ ?_
        dsimp only [List.dropLast]
        have w8 : ∀ V', KeepM bm V V' → V'.heap[W.heap.size]? = some (.cells #[.int .i64 (wrap64 (1 - (pre.map (dnV cs)).sum))] 3) := fun V' hk => (hk.block _ (by omega) (by omega)).trans h2
        refine quiet_value (.int .i64 (wrap64 (1 - (pre.map (dnV cs)).sum))) rfl (fun w => rfl) (fun V' hC => ?_) ?_
        · have c := cell_of (w8 V' hC.2) (j := 0) rfl
          clear w8 hC
          go_simp
        dsimp only [Act.put, List.setIfInBounds_toArray, List.set_cons_zero, List.set_cons_succ]
        refine quiet_value (.func (.func 24) #[] #[.pointer (some ⟨Bk, 0, none⟩), .pointer (some ⟨Bx, 0, none⟩), .pointer (some ⟨Bf, 0, none⟩)]) rfl (fun w => rfl) (fun V' hC => ?_) ?_
        · obtain ⟨kv, hq, hqk⟩ := hC.1
          have c := cell_of hq.f (j := 0) rfl
          clear w8 hC hq
          go_simp
        dsimp only [Act.put, List.setIfInBounds_toArray, List.set_cons_zero, List.set_cons_succ]
        refine quiet_value (.int .i64 x) rfl (fun w => rfl) (fun V' hC => ?_) ?_
        · clear w8 hC
          go_simp
        dsimp only [Act.put, List.setIfInBounds_toArray, List.set_cons_zero, List.set_cons_succ]
        refine quiet_call (.int .i64 (wrap64 (dnV cs x))) 24 #[.int .i64 x, .pointer (some ⟨Bk, 0, none⟩), .pointer (some ⟨Bx, 0, none⟩), .pointer (some ⟨Bf, 0, none⟩)] rfl (fun _ => trivial) (fun h => by simp [Fence.wide, Fence.inRound] at h) (fun V' hC => ?_) (fun V' hC => ?_) ?_
        · clear w8 hC
          go_simp
        · obtain ⟨kv, hq, hqk⟩ := hC.1
          exact (callsIn_wide.2 (IH.out x V' kv hxk hxn hq)).mono fun e V'' h => ⟨h.1, ⟨h.2.1.choose, h.2.1.choose_spec.1, hqk.trans h.2.1.choose_spec.2 (HXP.out)⟩, hC.2.trans h.2.2⟩
        dsimp only [Act.put, List.setIfInBounds_toArray, List.set_cons_zero, List.set_cons_succ]
        refine quiet_value (.int .i64 (wrap64 (wrap64 (1 - (pre.map (dnV cs)).sum) - wrap64 (dnV cs x)))) rfl (fun w => rfl) (fun V' hC => ?_) ?_
        · clear w8 hC
          go_simp
          rw [IntKind.wrap_i64]; unfold wrap64; rfl
        dsimp only [Act.put, List.setIfInBounds_toArray, List.set_cons_zero, List.set_cons_succ]
        refine wpQuietIn_nil fun V' hC => ?_
        have c8 := w8 V' hC.2
        obtain ⟨kv, hq, hqk⟩ := hC.1
        have hkk := hC.2
        have c := cell_of c8 (j := 0) rfl
        have f8 := free_of c8 0
        rw [HSUM.out]
        have C8 := Lib.hid c8
        have HQ := Lib.hid hq
        clear w8 hC hq c8
        go_simp
        have e : wrap64 (1 - ((pre.map (dnV cs)).sum + dnV cs x)) = wrap64 (1 - ((pre ++ [x]).map (dnV cs)).sum) := by simp
        have hlt1 : W.heap.size + 1 < V.heap.size := by omega
        refine ⟨KeepsFrom.trans ⟨hkk.size, fun k o hB hk2 _ => (hkk.block k (heap_lt hk2) (by omega)).trans hk2⟩ (keeps_set _ _ _ _ _), SameAt.setCell (hkk.block _ hlt1 (by omega)) (by omega) _, ⟨kv, HQ.out.setCell (by omega) (by omega) (by omega) (by omega) (by omega) _, hqk⟩, ?_, ?_, ?_⟩
        · rw [← e]; exact set_same C8.out
        · have hk3 := h3.trans hkk
          refine ⟨hk3.os, hk3.tape, hk3.output, by simpa using hk3.size, fun k hk2 hne => ?_⟩
          exact (heap_setCell_other _ _ _ _ (by show k ≠ W.heap.size; omega)).trans (hk3.block k hk2 hne)
        · have := hkk.size
          simp; omega
      case done =>
        rintro D V hD ⟨⟨kvs', h1, hnk⟩, h2, h3, h4⟩ hK
        have hno : (p : Int) ∉ kvs'.map (·.1) := fun h => by
          rcases hnk _ h with h | ⟨q, h, hq⟩
          · exact HIN.out h
          · have : q = p := by omega
            subst this; omega
        rw [← HSTEP.out] at h2
        have c := cell_of h2 (j := 0) rfl
        have ck := cell_of h1.k (j := 0) rfl
        have HNO := Lib.hid hno
        have H1 := Lib.hid h1
        have H3 := Lib.hid h3
        clear h1 h2 h3 hno
        gi_wp2_with (first
          | (gi_at_mapUpdate; refine map_update_new_in rfl _ _ _ rfl key_int Tryd.underlying52 rfl H1.out.m (p : Int) (.int .i64 (wrap64 (dnV cs p))) rfl rfl HNO.out ?_; intro V2 hm2 hg2; have H2 := Lib.hid (H1.out.add hg2 hpn HNO.out hm2 hng); have ck2 := cell_of H2.out.k (j := 0) rfl)
          | (gi_at_lookup; refine map_lookup_yes_in rfl _ _ _ rfl key_int Tryd.underlying52 rfl H2.out.m (p : Int) (.int .i64 (wrap64 (dnV cs p))) rfl H2.out.nd (by simp) ?_))
        have HK2 : V2.heap[D]? = _ := (hg2.block _ (heap_lt hK) (fun e => by have h0 := Option.some.inj e; subst h0; have := HC.out.m.lt; omega)).trans hK
        refine leave_marks (B := W.heap.size) _ (D+1) V2 (Marks.add (U := W.heap.size) (ds := []) trivial (by omega) (by omega) HK2) fun w' hs => ?_
        have hk3 := H3.out.trans (KeepM.of_grown hg2)
        have hsm : KeepM bm W w' := ⟨hs.below.os.trans hk3.os, hs.below.tape.trans hk3.tape, hs.below.output.trans hk3.output, Nat.le_trans hk3.size hs.below.size, fun k hk2 hne => (hs.below.block k hk2).trans (hk3.block k hk2 hne)⟩
        refine ⟨_, results_tmp rfl _ _ _, rfl, ⟨_, H2.out.to hs.keep (hs.below.block _ HC.out.m.lt) (hs.below.block _ HC.out.tab.lt), fun a ha => ?_⟩, hsm⟩
        rw [List.map_append, List.mem_append] at ha
        rcases ha with ha | ha
        · rcases hnk a ha with h | ⟨q, h5, h6⟩
          · exact .inl h
          · exact .inr ⟨q, h5, by omega⟩
        · exact .inr ⟨p, by simpa using ha, by omega⟩
      case stop =>
        rintro D c pre W hD hpre h
        exact h.elim
end Go.Proofs.YtfhcbaamibipcaaDoor
