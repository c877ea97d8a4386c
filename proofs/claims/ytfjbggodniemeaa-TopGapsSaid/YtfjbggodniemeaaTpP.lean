/- gauge: the powers. -/
import Derived.Test.YtfjbggodniemeaaTpG
import Derived.Maps.AppendAt
import Derived.Laws.CopyRow
import Derived.Laws.CopyOwn
import Derived.Deep.WholeRow
set_option linter.unusedVariables false
set_option linter.unusedSimpArgs false
namespace Go.Proofs.Ytfjbggodniemeaa
open Go.RowKit

def flatG (xs : List (Int × Int)) : List Value := xs.flatMap fun x => [.int .i64 x.1, .int .i64 x.2]
theorem flatG_len (xs : List (Int × Int)) : (flatG xs).length = xs.length * 2 := by
  induction xs with
  | nil => rfl
  | cons x xs ih => rw [flatG, List.flatMap_cons, List.length_append, ← flatG, ih]; simp; omega
theorem flatG_snoc (xs : List (Int × Int)) (y : Int × Int) : flatG (xs ++ [y]) = flatG xs ++ [.int .i64 y.1, .int .i64 y.2] := by simp [flatG]
theorem infoGold : (Try.prog.info? 35).map (fun i => (i.zero, i.size, i.bytes)) = some (some (.agg #[.int .i64 0, .int .i64 0]), 2, 16) := by kernel_rfl
theorem append_G {ops : Array Oper} {rest : List Oper} {o : Oper} {a : Act} {w : World} {Q : Exit → Act → World → Prop} (hgd : o.guard = none) (s x : Operand)
    (ho : o.op = .call { callee := .builtin .append, args := #[s, x], argTypes := #[79, 79] }) {base : Nat} {v : Value} {xs : List (Int × Int)} (hown : w.ownsRow base 35 2 v xs.length (flatG xs)) (hB : base ≤ w.heap.size) (hs : a.eval s = v)
    (y : Int × Int) (hx : a.eval x = .slice (some ⟨w.heap.size, 0, none⟩) 1 1) (hlen : xs.length ≤ 1000000)
    (h : ∀ v' w', w'.ownsRow base 35 2 v' (xs ++ [y]).length (flatG (xs ++ [y])) → (w.alloc (.cells #[.int .i64 y.1, .int .i64 y.2] 35)).grownBy w' v.ownBlock → (v'.ownBlock = v.ownBlock ∨ ∀ k, v'.ownBlock = some k → w.heap.size ≤ k) → wpList Try.prog ops Q rest (a.put o.dst v') w') : wpList Try.prog ops Q (o :: rest) a (w.alloc (.cells #[.int .i64 y.1, .int .i64 y.2] 35)) := by
  obtain ⟨i0, hi, hz0, hz1, hz2⟩ := info_parts infoGold
  refine wpList_append_own_at _ hgd s x 79 ho base 35 i0 (.agg #[.int .i64 0, .int .i64 0]) 2 16 Try.underlying79 hi hz0 hz1 hz2 rfl (by decide) v xs.length (flatG xs) hs (hown.alloc _) ⟨w.heap.size, 0, none⟩ 1 1 [.int .i64 y.1, .int .i64 y.2] hx rfl ?_ (by intro u hu; simp only [List.mem_cons, List.mem_nil_iff, or_false] at hu; rcases hu with rfl | rfl <;> rfl) (by simp only [maxLen]; omega) (by omega) (by simp; omega) ?_
  · intro j u hj
    have hc := heap_alloc_new w (.cells #[.int .i64 y.1, .int .i64 y.2] 35)
    rcases j with _ | _ | j
    · simp at hj; subst hj; exact cell_of hc (j := 0) rfl
    · simp at hj; subst hj; exact cell_of hc (j := 1) rfl
    · simp at hj
  · intro v' w' hown' hgrow hnil hat
    refine h v' w' ?_ hgrow ?_
    · rw [List.length_append, flatG_snoc]
      exact hown'
    · rcases hat with e | e
      · exact .inl e
      · refine .inr fun k hk => ?_
        rw [e] at hk
        have := Option.some.inj hk
        simp at this; omega
theorem own_of_blocks {w w' : World} {b : Nat} {e : TypeId} {k n : Nat} {v : Value} {xs : List Value} (h : w.ownsRow b e k v n xs) (hb : ∀ g, v.ownBlock = some g → w'.heap[g]? = w.heap[g]?) : w'.ownsRow b e k v n xs := by
  obtain ⟨h1, h2 | ⟨g, cap, cur, h3, h4, h5, h6⟩⟩ := h
  · exact ⟨h1, .inl h2⟩
  · exact ⟨h1, .inr ⟨g, cap, cur, h3, h4, (hb g (by rw [h3]; rfl)).trans h5, h6⟩⟩
structure TwoG (w0 w : World) (u v : Value) (xs ys : List (Int × Int)) : Prop where
  up : w.ownsRow w0.heap.size 35 2 u xs.length (flatG xs)
  down : w.ownsRow w0.heap.size 35 2 v ys.length (flatG ys)
  ne : ∀ k, u.ownBlock = some k → v.ownBlock ≠ some k
  below : Below w0.heap.size w0 w
theorem TwoG.step {w0 w w' : World} {u v : Value} {xs ys : List (Int × Int)} (h : TwoG w0 w u v xs ys) (hb : Below w.heap.size w w') : TwoG w0 w' u v xs ys :=
  ⟨World.ownsRow.below' h.up hb, World.ownsRow.below' h.down hb, h.ne, bto h.below hb⟩
theorem TwoG.swap {w0 w : World} {u v : Value} {xs ys : List (Int × Int)} (h : TwoG w0 w u v xs ys) : TwoG w0 w v u ys xs := ⟨h.down, h.up, fun k h1 h2 => h.ne k h2 h1, h.below⟩
theorem TwoG.left {w0 w w' : World} {u u' v : Value} {xs ys : List (Int × Int)} {y : Int × Int} {o : Obj} (h : TwoG w0 w u v xs ys) (hown : w'.ownsRow w0.heap.size 35 2 u' (xs ++ [y]).length (flatG (xs ++ [y])))
    (hg : (w.alloc o).grownBy w' u.ownBlock) (hat : u'.ownBlock = u.ownBlock ∨ ∀ k, u'.ownBlock = some k → w.heap.size ≤ k) : TwoG w0 w' u' v (xs ++ [y]) ys := by
  have hal : Below w.heap.size w (w.alloc o) := (Below.refl _ _).alloc (Nat.le_refl _) _
  refine ⟨hown, own_of_blocks h.down (fun g hg2 => ?_), fun k hk hv => ?_, ?_⟩
  · have hlt := (World.ownsRow.lt h.down g hg2).2
    exact (hg.block g (by simp; omega) (fun e => h.ne g e.symm hg2)).trans (hal.block g hlt)
  · have hlt := (World.ownsRow.lt h.down k hv).2
    rcases hat with e | e
    · exact h.ne k (by rw [← e]; exact hk) hv
    · have := e k hk; omega
  · exact (bto h.below hal).grown hg (by have := h.below.size; simp; omega) (fun k e => (World.ownsRow.lt h.up k e).1)
theorem flatG_get : ∀ (xs : List (Int × Int)) (k : Nat) (h : k < xs.length), (flatG xs)[k * 2]? = some (.int .i64 xs[k].1) ∧ (flatG xs)[k * 2 + 1]? = some (.int .i64 xs[k].2)
  | x :: xs, 0, _ => ⟨rfl, rfl⟩
  | x :: xs, k + 1, h => by
    have ih := flatG_get xs k (by simpa using h)
    have e : flatG (x :: xs) = .int .i64 x.1 :: .int .i64 x.2 :: flatG xs := rfl
    rw [e, show (k + 1) * 2 = k * 2 + 1 + 1 by omega]
    simpa using ih
/-- what a walk takes of a row of golds -/
theorem own_gold {w : World} {b : Nat} {u : Value} {xs : List (Int × Int)} (h : w.ownsRow b 35 2 u xs.length (flatG xs)) (hne : 0 < xs.length) : ∃ g cap, u = .slice (some ⟨g, 0, none⟩) xs.length cap ∧ b ≤ g ∧ ∀ k (hk : k < xs.length), w.cell? ⟨g, k * 2, none⟩ = some (.int .i64 xs[k].1) ∧ w.cell? ⟨g, k * 2 + 1, none⟩ = some (.int .i64 xs[k].2) := by
  obtain ⟨_, h1 | ⟨g, cap, cur, h3, h4, h5, h6, h7, h8, h9⟩⟩ := h
  · have := h1.2; omega
  · refine ⟨g, cap, h3, h4, fun k hk => ?_⟩
    obtain ⟨e1, e2⟩ := flatG_get xs k hk
    rw [← h9] at e1 e2
    rw [List.getElem?_take] at e1 e2
    rw [if_pos (by omega)] at e1 e2
    exact ⟨cell_of h5 (by simpa using e1), cell_of h5 (by simpa using e2)⟩
theorem gold_cell {w : World} {b g n cap : Nat} {xs : List (Int × Int)} (h : w.ownsRow b 35 2 (.slice (some ⟨g, 0, none⟩) n cap) xs.length (flatG xs)) {k : Nat} (hk : k < xs.length) : w.cell? ⟨g, k * 2, none⟩ = some (.int .i64 xs[k].1) ∧ w.cell? ⟨g, k * 2 + 1, none⟩ = some (.int .i64 xs[k].2) := by
  obtain ⟨g', cap', e, _, h2⟩ := own_gold h (by omega)
  injection e with e1 _ _
  injection e1 with e1
  injection e1 with e1
  subst e1
  exact h2 k hk
theorem run_copy_row2 (w : World) (dT sT ty elem : TypeId) (g o dLen dCap : Nat) (a : Addr) (sLen sCap : Nat) (cur : Array Value) (t : TypeId) (cs : List Value)
    (hu : Try.prog.underlying dT = some (.slice elem)) (hs : (Try.prog.info? elem).map (·.size) = some 2)
    (hg : w.heap[g]? = some (.cells cur t (0, 0))) (hn : cs.length = Nat.min sLen dLen * 2)
    (hsrc : ∀ j v, cs[j]? = some v → w.cell? (a.add j) = some v) (hfit : o + cs.length ≤ cur.size) (h1 : ∀ v ∈ cs, v.oneCell' = true) :
    (Builtin.copy_ #[dT, sT] ty #[.slice (some ⟨g, o, none⟩) dLen dCap, .slice (some a) sLen sCap]).run Try.prog w =
      .ok (goInt (Nat.min sLen dLen)) (w.setRow g (cur.toList.take o ++ cs ++ cur.toList.drop (o + cs.length)).toArray) := by
  have hl := run_loadCells_list (P := Try.prog) w a cs hsrc
  have hst := run_storeCells_at Try.prog g o t cs 0 cur w hg (by simpa using hfit) h1
  cases hq : Try.prog.info? elem with
  | none => simp [hq] at hs
  | some i =>
    have hi : i.size = 2 := by simpa [hq] using hs
    simp [Builtin.copy_, run_underlying hu, Builtin.lenOf, Builtin.firstCells, sizeOf, typeInfo, hq, hi, ← hn, hl, hst]
theorem flatG_one (xs : List (Int × Int)) : ∀ v ∈ flatG xs, v.oneCell' = true := fun v hv => by
  obtain ⟨x, _, hx⟩ := List.mem_flatMap.1 hv
  simp only [List.mem_cons, List.mem_nil_iff, or_false] at hx
  rcases hx with rfl | rfl <;> rfl
theorem gold_src {w : World} {b g n cap : Nat} {xs : List (Int × Int)} (h : w.ownsRow b 35 2 (.slice (some ⟨g, 0, none⟩) n cap) xs.length (flatG xs)) : ∀ (j : Nat) (v : Value), (flatG xs)[j]? = some v → w.cell? ((⟨g, 0, none⟩ : Addr).add j) = some v := fun j v hj => by
  have e : (⟨g, 0, none⟩ : Addr).add j = ⟨g, j, none⟩ := by
    unfold Addr.add
    split
    · rename_i h; subst h; rfl
    · simp
  rw [e]
  obtain ⟨_, h1 | ⟨g', cap', cur, h3, h4, h5, h6, h7, h8, h9⟩⟩ := h
  · cases h1.1
  · injection h3 with e1 _ _
    injection e1 with e1
    injection e1 with e1
    subst e1
    rw [← h9, List.getElem?_take] at hj
    split at hj
    · exact cell_of h5 (by simpa using hj)
    · cases hj
theorem wp_loadVar {o : Oper} {a : Act} {w : World} {next : Act → World → Prop} {Q : Exit → Act → World → Prop} {t : TypeId} {x : Operand} {p : Addr} {v : Value} (ho : o.op = .load t x) (hx : a.eval x = .pointer (some p)) (hl : (loadVar t p).run Try.prog w = .ok v w) (h : next (a.put o.dst v) w) : o.wp Try.prog a w next Q := by
  unfold Oper.wp
  have e : (execOp a.eval o).run Try.prog w = .ok (.value v) w := by simp [execOp, ho, hx, Instr.loadAt, Instr.sureAddr, hl, Result.andThen]
  rw [e, Oper.upon_value]; exact h
theorem wp_storeVar {o : Oper} {a : Act} {w w' : World} {next : Act → World → Prop} {Q : Exit → Act → World → Prop} {t : TypeId} {x y : Operand} {p : Addr} {v : Value} (ho : o.op = .store t x y) (hx : a.eval x = .pointer (some p)) (hy : a.eval y = v) (hl : (storeVar t p v).run Try.prog w = .ok () w') (h : next (a.put o.dst undef) w') : o.wp Try.prog a w next Q := by
  unfold Oper.wp
  have e : (execOp a.eval o).run Try.prog w = .ok .skip w' := by simp [execOp, ho, hx, hy, Instr.storeAt, Instr.sureAddr, hl, Result.andThen]
  rw [e, Oper.upon_skip]; exact h
def Z0 : List Value := List.replicate 162 (.int .i64 0)
/-! ### newPowers -/
def upTo : Nat → List (Int × Int)
  | 0 => [(1, 0)]
  | k + 1 => upTo k ++ [gprod ((upTo k).getD k (0, 0)) (0, 1)]
def downTo : Nat → List (Int × Int)
  | 0 => [(1, 0)]
  | k + 1 => downTo k ++ [gprod ((downTo k).getD k (0, 0)) (-1, 1)]
theorem upTo_len : ∀ k, (upTo k).length = k + 1
  | 0 => rfl
  | k + 1 => by rw [upTo, List.length_append, upTo_len k]; rfl
theorem downTo_len : ∀ k, (downTo k).length = k + 1
  | 0 => rfl
  | k + 1 => by rw [downTo, List.length_append, downTo_len k]; rfl
theorem zero_powers (w : World) : (zeroValue 70).run Try.prog w = .ok (.agg (List.replicate 162 (Value.int .i64 0)).toArray) w := by kernel_rfl
def arrTo (PA : List Value) (ds : List (Int × Int)) : Nat → List Value
  | 0 => PA
  | i + 1 => ((arrTo PA ds i).set ((40 - i) * 2) (.int .i64 (ds.getD i (0, 0)).1)).set ((40 - i) * 2 + 1) (.int .i64 (ds.getD i (0, 0)).2)
theorem arrTo_len (PA : List Value) (ds : List (Int × Int)) : ∀ i, (arrTo PA ds i).length = PA.length
  | 0 => rfl
  | i + 1 => by rw [arrTo, List.length_set, List.length_set, arrTo_len PA ds i]
theorem arrTo_all {P : Value → Prop} (PA : List Value) (ds : List (Int × Int)) (hPA : ∀ v ∈ PA, P v) (hi : ∀ z : Int, P (.int .i64 z)) : ∀ i, ∀ v ∈ arrTo PA ds i, P v
  | 0 => hPA
  | i + 1 => fun v hv => by
    rw [arrTo] at hv
    rcases List.mem_or_eq_of_mem_set hv with hv | rfl
    · rcases List.mem_or_eq_of_mem_set hv with hv | rfl
      · exact arrTo_all PA ds hPA hi i v hv
      · exact hi _
    · exact hi _
def powL : List Value := arrTo (List.take 80 Z0 ++ flatG (upTo 40) ++ List.drop (80 + (flatG (upTo 40)).length) Z0) (downTo 40) 41
theorem powL_len : powL.length = 162 := by
  unfold powL
  rw [arrTo_len, List.length_append, List.length_append, List.length_take, List.length_drop, flatG_len, upTo_len, show Z0.length = 162 from List.length_replicate]; rfl
theorem powL_one : ∀ v ∈ powL, v.oneCell' = true := by
  refine arrTo_all _ _ (fun v hv => ?_) (fun _ => rfl) 41
  have hz : ∀ v ∈ Z0, v.oneCell' = true := fun v hv => by rw [Z0, List.mem_replicate] at hv; rw [hv.2]; rfl
  rcases List.mem_append.1 hv with hv | hv
  · rcases List.mem_append.1 hv with hv | hv
    · exact hz _ (List.mem_of_mem_take hv)
    · exact flatG_one _ _ hv
  · exact hz _ (List.mem_of_mem_drop hv)
set_option maxRecDepth 100000 in
set_option maxHeartbeats 3200000 in
theorem newPowers_any (w : World) :
    Calls Try.prog 32 #[] w fun e w' => e = .returned (.agg powL.toArray) ∧ Below w.heap.size w w' := by
  have hz := zero_powers
  generalize hZ : (List.replicate 162 (Value.int .i64 0)).toArray = Z at hz
  go_enter Try.func32, Try.ntmps32
  go_wp2_with fail
  have hT0 : TwoG (w.alloc (.cells Z 70)) (((w.alloc (.cells Z 70)).alloc (.cells #[.int .i64 1, .int .i64 0] 35)).alloc (.cells #[.int .i64 1, .int .i64 0] 35)) (.slice (some ⟨w.heap.size + 1, 0, none⟩) 1 1) (.slice (some ⟨w.heap.size + 1 + 1, 0, none⟩) 1 1) (upTo 0) (downTo 0) := by
    refine ⟨⟨rfl, .inr ⟨w.heap.size + 1, 1, _, rfl, by simp, alloc_old (heap_alloc_at _ _ _ (by simp)), Nat.le_refl _, by simp [maxLen], rfl, rfl⟩⟩, ⟨rfl, .inr ⟨w.heap.size + 1 + 1, 1, _, rfl, by simp, heap_alloc_at _ _ _ (by simp), Nat.le_refl _, by simp [maxLen], rfl, rfl⟩⟩, fun k h1 h2 => ?_, ((Below.refl _ _).alloc (Nat.le_refl _) _).alloc (by simp) _⟩
    have e1 := Option.some.inj h1
    have e2 := Option.some.inj h2
    simp at e1 e2
    omega
  have HT0 := Lib.hid hT0
  clear hT0 hz
  generalize hw1 : w.alloc (.cells Z 70) = w1 at *
  go_loopw [1, 2, 11] (fun u v i W => ∃ k : Nat, k ≤ 40 ∧ i = .int .i64 k ∧ TwoG w1 W u v (upTo k) (downTo k)) (fun _ _ i _ => 40 - (intOf i).toNat)
  case atStart => exact ⟨0, by omega, rfl, HT0.out⟩
  case round =>
    obtain ⟨k, hk, rfl, ht⟩ := hrel
    obtain ⟨ug, ucap, hu, _, _⟩ := own_gold ht.up (by rw [upTo_len]; omega)
    obtain ⟨dg, dcap, hd, _, _⟩ := own_gold ht.down (by rw [downTo_len]; omega)
    rw [upTo_len] at hu
    rw [downTo_len] at hd
    subst hu
    subst hd
    by_cases hk40 : k < 40
    · have hku : k < (upTo k).length := by rw [upTo_len]; omega
      have hkd : k < (downTo k).length := by rw [downTo_len]; omega
      have k0 : (0 : Int) ≤ (k : Int) := by omega
      have k1 : (k : Int) < 40 := by omega
      have k2 : (k : Int) < ((k + 1 : Nat) : Int) := by omega
      obtain ⟨c0, c1⟩ := gold_cell ht.up hku
      have HU : Hid (upTo (k + 1) = upTo k ++ [gprod (upTo k)[k] (0, 1)]) := Lib.hid (by rw [upTo, List.getD_eq_getElem?_getD, List.getElem?_eq_getElem hku]; rfl)
      have HD : Hid (downTo (k + 1) = downTo k ++ [gprod (downTo k)[k] (-1, 1)]) := Lib.hid (by rw [downTo, List.getD_eq_getElem?_getD, List.getElem?_eq_getElem hkd]; rfl)
      have HT := Lib.hid ht
      have HP1 := Lib.hid (product_any (upTo k)[k] (0, 1))
      have HP2 := Lib.hid (product_any (downTo k)[k] (-1, 1))
      clear ht
      go_wp2_with fail
      refine (HP1.out _).mono ?_
      rintro e w2 ⟨rfl, hb2⟩
      generalize gprod (upTo k)[k] (0, 1) = p at *
      rw [show gv p = Value.agg #[.int .i64 p.1, .int .i64 p.2] from rfl]
      have HT2 := Lib.hid (HT.out.step hb2)
      have HLU : Hid ((upTo k).length ≤ 1000000) := Lib.hid (by rw [upTo_len]; omega)
      have HLD : Hid ((downTo k).length ≤ 1000000) := Lib.hid (by rw [downTo_len]; omega)
      clear c0 c1 hb2
      go_wp2_with (at_builtin; refine append_G rfl _ _ rfl HT2.out.up HT2.out.below.size rfl p rfl HLU.out ?_; intro u3 w3 hown3 hg3 hat3; have HT3 := Lib.hid (HT2.out.left hown3 hg3 hat3); have d0 := (gold_cell HT3.out.down hkd).1; have d1 := (gold_cell HT3.out.down hkd).2)
      refine (HP2.out _).mono ?_
      rintro e w4 ⟨rfl, hb4⟩
      generalize gprod (downTo k)[k] (-1, 1) = q at *
      rw [show gv q = Value.agg #[.int .i64 q.1, .int .i64 q.2] from rfl]
      have HT4 := Lib.hid (HT3.out.step hb4)
      clear d0 d1 hb4
      go_wp2_with (at_builtin; refine append_G rfl _ _ rfl HT4.out.down HT4.out.below.size rfl q rfl HLD.out ?_; intro v5 w5 hown5 hg5 hat5)
      go_roundw
      case rel => exact ⟨k + 1, by omega, by go_num, by rw [HU.out, HD.out]; exact (HT4.out.swap.left hown5 hg5 hat5).swap⟩
      case measure => simp [intOf]; omega
    · have hke : k = 40 := by omega
      subst hke
      have hzz := zero_powers
      rw [hZ] at hzz
      have hpz : (wr.alloc (.cells Z 70)).heap[wr.heap.size]? = some (.cells Z 70 (0, 0)) := heap_alloc_new _ _
      have ht2 := ht.step ((Below.refl wr.heap.size wr).alloc (Nat.le_refl _) (.cells Z 70))
      have hcp : ∀ ty, (Builtin.copy_ #[79, 79] ty #[.slice (some ⟨wr.heap.size, 80, none⟩) 41 41, .slice (some ⟨ug, 0, none⟩) 41 ucap]).run Try.prog (wr.alloc (.cells Z 70)) = _ := fun ty => run_copy_row2 _ _ _ ty 35 wr.heap.size 80 41 41 ⟨ug, 0, none⟩ 41 ucap Z 70 (flatG (upTo 40)) Try.underlying79 (by kernel_rfl) hpz (by rw [flatG_len, upTo_len]; rfl) (gold_src ht2.up) (by rw [flatG_len, upTo_len, ← hZ]; decide) (flatG_one _)
      have hdc := fun (k : Nat) (hk : k < (downTo 40).length) => gold_cell ht2.down hk
      have hbp := ht2.below
      generalize hPA : (List.take 80 Z.toList ++ flatG (upTo 40) ++ List.drop (80 + (flatG (upTo 40)).length) Z.toList) = PA at hcp
      have hpa := setRow_heap (wr.alloc (.cells Z 70)) wr.heap.size _ PA.toArray _ _ hpz
      have hdlt : dg < wr.heap.size := (World.ownsRow.lt ht.down dg rfl).2
      have hbs : w1.heap.size ≤ wr.heap.size := ht.below.size
      have hW2 : ((wr.alloc (.cells Z 70)).setRow wr.heap.size PA.toArray).heap.size = wr.heap.size + 1 := by simp [World.setRow]
      have HB2 : Hid (Below w1.heap.size w1 ((wr.alloc (.cells Z 70)).setRow wr.heap.size PA.toArray)) := Lib.hid (below_setRow hbp hbs _)
      have HDC : Hid (∀ k (hk : k < (downTo 40).length), ((wr.alloc (.cells Z 70)).setRow wr.heap.size PA.toArray).cell? ⟨dg, k * 2, none⟩ = some (.int .i64 (downTo 40)[k].1) ∧ ((wr.alloc (.cells Z 70)).setRow wr.heap.size PA.toArray).cell? ⟨dg, k * 2 + 1, none⟩ = some (.int .i64 (downTo 40)[k].2)) := Lib.hid (fun k hk =>
        ⟨(World.cell?_of_block (a := ⟨dg, k * 2, none⟩) (setRow_other _ _ dg _ (by omega))).trans (hdc k hk).1, (World.cell?_of_block (a := ⟨dg, k * 2 + 1, none⟩) (setRow_other _ _ dg _ (by omega))).trans (hdc k hk).2⟩)
      have HPA := Lib.hid hpa
      clear hdc hbp hpa ht ht2
      go_wp2_with fail
      generalize hWW : World.setRow _ _ _ = W2 at *
      generalize hBP : wr.heap.size = BP at *
      clear hWW
      go_loopw [38] (fun v W => ∃ i : Nat, i ≤ 41 ∧ v = .int .i64 i ∧ W.heap[BP]? = some (.cells (arrTo PA (downTo 40) i).toArray 70 (0, 0)) ∧ Below w1.heap.size w1 W ∧ BP < W.heap.size ∧ (∀ k (hk : k < (downTo 40).length), W.cell? ⟨dg, k * 2, none⟩ = some (.int .i64 (downTo 40)[k].1) ∧ W.cell? ⟨dg, k * 2 + 1, none⟩ = some (.int .i64 (downTo 40)[k].2))) (fun v _ => 41 - (intOf v).toNat)
      case atStart => exact ⟨0, by omega, rfl, HPA.out, HB2.out, by omega, HDC.out⟩
      case round =>
        obtain ⟨i, hi, rfl, hbp, hbe, hsz, hdc⟩ := hrel
        clear HPA HB2 HDC
        by_cases hi41 : i < 41
        · have hid : i < (downTo 40).length := by rw [downTo_len]; omega
          obtain ⟨c0, c1⟩ := hdc i hid
          have i0 : (0 : Int) ≤ (i : Int) := by omega
          have i1 : (i : Int) < 41 := by omega
          have HDC := Lib.hid hdc
          have HBP := Lib.hid hbp
          have HBE := Lib.hid hbe
          have hPAl : PA.length = 162 := by rw [← hPA, List.length_append, List.length_append, List.length_take, List.length_drop, flatG_len, upTo_len, ← hZ]; rfl
          generalize hx1 : (downTo 40)[i].1 = xa at *
          generalize hx2 : (downTo 40)[i].2 = xb at *
          have ho1 : (40 - i) * 2 < (arrTo PA (downTo 40) i).length := by rw [arrTo_len, hPAl]; omega
          have ho2 : (40 - i) * 2 + 1 < (arrTo PA (downTo 40) i).length := by rw [arrTo_len, hPAl]; omega
          have s0 := cell_of hbp (j := (40 - i) * 2) (v := (arrTo PA (downTo 40) i)[(40 - i) * 2]) (by simp [ho1])
          have f0 := free_of hbp ((40 - i) * 2)
          have s1 := cell_of hbp (j := (40 - i) * 2 + 1) (v := (arrTo PA (downTo 40) i)[(40 - i) * 2 + 1]) (by simp [ho2])
          have f1 := free_of hbp ((40 - i) * 2 + 1)
          have HX : Hid ((downTo 40).getD i (0, 0) = (xa, xb)) := Lib.hid (by rw [List.getD_eq_getElem?_getD, List.getElem?_eq_getElem hid, ← hx1, ← hx2]; rfl)
          have hdB : dg ≠ BP := by omega
          clear hdc hbp hbe
          go_wp2_with fail
          go_roundw
          case rel =>
            refine ⟨i + 1, by omega, by go_num, alloc_old ?_, ((HBE.out.setCell (p := ⟨BP, _, none⟩) (by show w1.heap.size ≤ BP; omega) _).setCell (p := ⟨BP, _, none⟩) (by show w1.heap.size ≤ BP; omega) _).alloc (by simp; omega) _, by simp; omega, fun k hk => ?_⟩
            · rw [set_heap_same (set_heap_same HBP.out), arrTo, HX.out]
              simp
            · have hdk : dg < wr.heap.size := by omega
              have hb : ((((wr.setCell ⟨BP, (40 - i) * 2, none⟩ (.int .i64 xa)).setCell ⟨BP, (40 - i) * 2 + 1, none⟩ (.int .i64 xb)).alloc (.cells #[.int .i64 xa, .int .i64 xb] 35)).heap[dg]? = wr.heap[dg]?) := (heap_alloc_lt _ _ _ (by simp; omega)).trans ((heap_setCell_other _ _ _ _ (by show dg ≠ BP; omega)).trans (heap_setCell_other _ _ _ _ (by show dg ≠ BP; omega)))
              exact ⟨(World.cell?_of_block (a := ⟨dg, k * 2, none⟩) hb).trans (HDC.out k hk).1, (World.cell?_of_block (a := ⟨dg, k * 2 + 1, none⟩) hb).trans (HDC.out k hk).2⟩
          case measure => simp [intOf]; omega
        · have hie : i = 41 := by omega
          subst hie
          have hAL : arrTo PA (downTo 40) 41 = powL := by
            rw [← hPA, ← hZ, List.toList_toArray]; unfold powL Z0; rfl
          have hlt1 : w1.heap.size = w.heap.size + 1 := by rw [← hw1]; simp
          have hres : wr.heap[w.heap.size]? = some (.cells Z 70 (0, 0)) := (hbe.block _ (by omega)).trans (by rw [← hw1]; exact heap_alloc_new _ _)
          rw [hAL] at hbp
          have hld := run_loadVar_row (P := Try.prog) wr BP 70 70 _ (0, 0) _ hbp Try.underlying70 rfl (by rw [List.size_toArray, powL_len]; kernel_rfl)
          have hst := run_storeVar_row (P := Try.prog) wr w.heap.size 70 70 Z powL.toArray hres (by rw [List.size_toArray, powL_len]; kernel_rfl) (by rw [show Z.size = 162 by rw [← hZ]; simp]; simp [powL_len]) (by rw [Array.all_eq_true_iff_forall_mem]; exact fun v hv => powL_one v (by simpa using hv))
          have hbe' : Below w.heap.size w (wr.setRow w.heap.size powL.toArray) := by
            refine below_setRow ?_ (Nat.le_refl _) _
            exact ((Below.refl _ w).alloc (Nat.le_refl _) _).trans (by rw [hw1]; exact hbe.mono (by omega))
          have hld2 := run_loadVar_row (P := Try.prog) (wr.setRow w.heap.size powL.toArray) w.heap.size 70 70 _ (0, 0) _ (setRow_heap _ _ _ _ _ _ hres) Try.underlying70 rfl (by rw [List.size_toArray, powL_len]; kernel_rfl)
          have hARs : powL.toArray.size = 162 := by rw [List.size_toArray, powL_len]
          obtain ⟨AR, hARe⟩ : ∃ A, powL.toArray = A := ⟨_, rfl⟩
          rw [hARe] at hARs hst hld hld2 hbe'
          have HARE := Lib.hid hARe
          clear hARe
          have HLD := Lib.hid hld
          have hsc : (storeCells ⟨w.heap.size, 0, none⟩ AR.toList 0).run Try.prog wr = .ok () (wr.setRow w.heap.size AR) := by
            rw [← hst]
            simp only [storeVar, Sem.run_bind, show (sizeOf 70).run Try.prog wr = .ok 162 wr by kernel_rfl]
            simp [Value.cells, hARs]
          have HLD2 := Lib.hid hld2
          have HBE := Lib.hid hbe'
          clear hbp hbe hdc hres hAL hlt1 hld hst hld2 hbe'
          go_wp2_with fail
          refine wp_loadVar rfl rfl HLD.out ?_
          go_wp2_with fail
          refine bodyPost_ret (results_var1 rfl rfl HLD2.out) rfl ⟨by rw [HARE.out], HBE.out⟩
end Go.Proofs.Ytfjbggodniemeaa
