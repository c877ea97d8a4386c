/- The iterator over the clear orders: its contract. -/
import Derived.Test.YtlgonmnbedddaaaClr
import Derived.Test.YtlgonmnbedddaaaOrd
import Derived.Test.YtlgonmnbedddaaaGiven
import Derived.ArgAppend
import Derived.Deep.RegionLaw
set_option linter.unusedVariables false
set_option linter.unusedSimpArgs false
namespace Go.Proofs.Ytlgonmnbedddaaa
open Go.RowKit Go.Shelf
attribute [local go_sem] Oper.semAt_some

theorem RoundIn.any {m : Nat} (m' : Nat) {l f : Nat} {tmps : Array Value} {ca bd : Code} {W : World} {R : Ending → World → Prop} (h : RoundIn Fence.wide m Try.prog l f tmps ca bd W R) : RoundIn Fence.wide m' Try.prog l f tmps ca bd W R :=
  ⟨h.1, fun c cs _ => h.2 c cs (room_wide _)⟩
theorem CallsIn.any {m : Nat} (m' : Nat) {f : Nat} {args : Array Value} {W : World} {R : Ending → World → Prop} (h : CallsIn Fence.wide m Try.prog f args W R) : CallsIn Fence.wide m' Try.prog f args W R := callsIn_wide.2 (callsIn_wide.1 h)

/-- the clear orders of n columns with a beginning, in lexicographic order; d: the columns to come -/
def enumL (n : Nat) : Nat → List Int → List (List Int)
  | 0, l => if clearB l then [l] else []
  | d + 1, l => if clearB l then (List.range n).flatMap fun (r : Nat) => if (r : Int) ∈ l then [] else enumL n d (l ++ [(r : Int)]) else []
/-- .. as far as row m -/
def enumTo (n d : Nat) (l : List Int) (m : Nat) : List (List Int) := (List.range m).flatMap fun (r : Nat) => if (r : Int) ∈ l then [] else enumL n d (l ++ [(r : Int)])
theorem enumTo_succ (n d : Nat) (l : List Int) (m : Nat) : enumTo n d l (m + 1) = enumTo n d l m ++ if (m : Int) ∈ l then [] else enumL n d (l ++ [(m : Int)]) := by simp [enumTo, List.range_succ]
theorem enumTo_le (n d : Nat) (l : List Int) : ∀ k m, enumTo n d l m <+: enumTo n d l (m + k)
  | 0, m => List.prefix_rfl
  | k + 1, m => (enumTo_le n d l k m).trans (by rw [← Nat.add_assoc, enumTo_succ]; exact List.prefix_append _ _)

/-- 'append(l[:len(l):len(l)], r)' -/
theorem run_append_full {w : World} {a : Option Addr} {l : List Int} {S : Nat → Prop} (hr : ReadsS S w (.slice a l.length l.length) l) (hl : l.length ≤ 1000000) (r : Int) (ty : TypeId) :
    ∃ v' w', (Builtin.append_ #[22, 22] ty #[.slice a l.length l.length, .slice (some ⟨w.heap.size, 0, none⟩) 1 1]).run Try.prog (w.alloc (.cells #[.int .i64 r] 3)) = .ok v' w' ∧
      w'.ownsRow (w.heap.size + 1) 3 1 v' (l ++ [r]).length ((l ++ [r]).map (Value.int .i64)) ∧ Below w.heap.size w w' := by
  obtain ⟨i0, hi, hz0, hz1, hz2⟩ := info_parts infoInt
  obtain ⟨a', cap, he, h1, h2, h3⟩ := hr
  cases he
  have hnew : ∀ j u, [Value.int .i64 r][j]? = some u → (w.alloc (.cells #[.int .i64 r] 3)).cell? ((⟨w.heap.size, 0, none⟩ : Addr).add j) = some u := cell_one_new _ _ _
  have base : Below w.heap.size w (w.alloc (.cells #[.int .i64 r] 3)) := (Below.refl _ _).alloc (Nat.le_refl _) _
  have fin : ∀ v' w', w'.ownsRow (w.alloc (.cells #[.int .i64 r] 3)).heap.size 3 1 v' (l.length + 1) (l.map (Value.int .i64) ++ [.int .i64 r]) → (w.alloc (.cells #[.int .i64 r] 3)).grownBy w' none →
      w'.ownsRow (w.heap.size + 1) 3 1 v' (l ++ [r]).length ((l ++ [r]).map (Value.int .i64)) ∧ Below w.heap.size w w' := fun v' w' h4 h5 => by
    refine ⟨by simpa using h4, base.grown h5 (by simp) (fun k e => by cases e)⟩
  cases a with
  | some b =>
    have hcells : ∀ j u, (l.map (Value.int .i64))[j]? = some u → (w.alloc (.cells #[.int .i64 r] 3)).cell? (b.add j) = some u := by
      intro j u hj
      rcases h3 with rfl | ⟨b', off, he, hS, hc⟩
      · simp at hj
      · cases he
        have hjl : j < l.length := by
          have := (List.getElem?_eq_some_iff.1 hj).1; simpa using this
        have hadd : (⟨b', off, none⟩ : Addr).add j = ⟨b', off + j, none⟩ := by unfold Addr.add; split <;> simp_all
        have h6 := hc j hjl
        rw [hadd, World.cell?_alloc_past _ _ _ (World.block_lt_of_cell? w _ h6), h6]
        have : (l.map (Value.int .i64))[j]? = some (.int .i64 l[j]) := by simp [hjl]
        rw [this] at hj
        rw [gi_lt hjl]; exact hj
    obtain ⟨v', w', hrun, r1, r2⟩ := run_append_arg_grows (P := Try.prog) (w.alloc (.cells #[.int .i64 r] 3)) 22 ty 3 i0 (.int .i64 0) 1 8 Try.underlying22 hi hz0 hz1 hz2 rfl (by decide) b l.length l.length (l.map (Value.int .i64)) (by simp) hcells ⟨w.heap.size, 0, none⟩ 1 1 [.int .i64 r] rfl hnew (by omega) (by simp only [maxLen]; omega) (by omega)
    exact ⟨v', w', hrun, fin v' w' r1 r2⟩
  | none =>
    obtain rfl : l = [] := by
      rcases h3 with h | ⟨b, off, h, _⟩
      · exact h
      · cases h
    obtain ⟨v', w', hrun, r1, r2, _⟩ := run_append_own (P := Try.prog) (w.alloc (.cells #[.int .i64 r] 3)) (w.alloc (.cells #[.int .i64 r] 3)).heap.size 22 ty 3 i0 (.int .i64 0) 1 8 Try.underlying22 hi hz0 hz1 hz2 rfl (by decide) (.slice none 0 0) 0 [] (World.ownsRow_nil _ _ _ _) ⟨w.heap.size, 0, none⟩ 1 1 [.int .i64 r] rfl hnew (by simp [Value.oneCell']) (by simp [maxLen]) (by simp) (Nat.le_refl _)
    exact ⟨v', w', hrun, fin v' w' (by simpa using r1) r2⟩

theorem below_drewN (w : World) (n : Nat) : Below w.heap.size w (w.drewN n) := by
  induction n generalizing w with
  | zero => exact Below.refl _ _
  | succ n ih =>
    have h : Below w.heap.size w.drew (w.drew.drewN n) := ih w.drew
    rw [← World.drew_drewN]
    exact ⟨h.os, h.tape, h.output, h.size, h.block⟩
theorem ReadsS.cut {S : Nat → Prop} {w : World} {a : Option Addr} {cap : Nat} {l : List Int} (h : ReadsS S w (.slice a l.length cap) l) : ReadsS S w (.slice a l.length l.length) l := by
  obtain ⟨a', cap', he, h1, h2, h3⟩ := h
  cases he
  exact ⟨a, l.length, rfl, Nat.le_refl _, Nat.le_trans h1 h2, h3⟩
theorem step_wanted {ops : Array Oper} {o : Oper} {a : Act} {w : World} {K : Act → World → Prop} {Q : Exit → Act → World → Prop} {E : Prop} (hw : Region.wanted o (yielded ops a.tmps) = true) (h : Oper.wp Try.prog o a w K Q) :
    if Region.wanted o (yielded ops a.tmps) = true then Oper.wp Try.prog o a w K Q else E := by rw [if_pos hw]; exact h
theorem step_append_full {ops : Array Oper} {o : Oper} {a : Act} {w : World} {K : Act → World → Prop} {Q : Exit → Act → World → Prop} {E : Prop} {ao : Option Addr} {l : List Int} {S : Nat → Prop} (hw : Region.wanted o (yielded ops a.tmps) = true) (s x : Operand)
    (ho : o.op = .call { callee := .builtin .append, args := #[s, x], argTypes := #[22, 22] }) (hs : a.eval s = .slice ao l.length l.length) (hr : ReadsS S w (.slice ao l.length l.length) l) (hl : l.length ≤ 1000000) (r : Int)
    (hx : a.eval x = .slice (some ⟨w.heap.size, 0, none⟩) 1 1)
    (h : ∀ v' w', w'.ownsRow (w.heap.size + 1) 3 1 v' (l ++ [r]).length ((l ++ [r]).map (Value.int .i64)) → Below w.heap.size w w' → K (a.put o.dst v') w') :
    if Region.wanted o (yielded ops a.tmps) = true then Oper.wp Try.prog o a ((w.alloc (.cells #[.int .i64 r] 3)).drew) K Q else E := by
  rw [if_pos hw]
  obtain ⟨v', w', hrun, h1, h2⟩ := run_append_full (w := w.drew) (S := S) (hr.same (SameS.refl _ _).drew) hl r o.type
  have hrun' : (Builtin.append_ #[22, 22] o.type #[.slice ao l.length l.length, .slice (some ⟨w.heap.size, 0, none⟩) 1 1]).run Try.prog ((w.alloc (.cells #[.int .i64 r] 3)).drew) = .ok v' w' := hrun
  unfold Oper.wp execOp
  simp only [ho, resolve, invoke, builtin, Sem.run_bind, Sem.run_pure, Result.andThen_ok, List.map_toArray, List.map_cons, List.map_nil, hs, hx, hrun']
  exact h v' w' h1 ((Below.refl _ w).drew.trans h2)

theorem own_given {X : Nat → Prop} {w : World} {base : Nat} {v : Value} {xs : List Int} (h : w.ownsRow base 3 1 v xs.length (xs.map (Value.int .i64))) (hX : ∀ b, X b → b < base) : ReadsS (fun b => b < w.heap.size ∧ ¬ X b) w v xs := by
  obtain ⟨a, cap, he, h1, h2, h3⟩ := Reads.own h
  refine ⟨a, cap, he, h1, h2, h3.imp id ?_⟩
  rintro ⟨b, off, rfl, hlt, hc⟩
  refine ⟨b, off, rfl, ⟨hlt, fun hx => ?_⟩, hc⟩
  have := (h.lt b (by rw [he]; rfl)).1
  have := hX b hx
  omega
theorem gi_snoc {l : List Int} {r : Int} (h : ∀ j, 0 ≤ gi l j ∧ gi l j ≤ 1000) (h1 : 0 ≤ r) (h2 : r ≤ 1000) : ∀ j, 0 ≤ gi (l ++ [r]) j ∧ gi (l ++ [r]) j ≤ 1000 := by
  intro j
  by_cases hj : j < l.length
  · have := h j
    have e : gi (l ++ [r]) j = gi l j := by simp [gi, hj, List.getElem?_append_left]
    rwa [e]
  · by_cases e : j = l.length
    · subst e
      have : gi (l ++ [r]) l.length = r := by simp [gi]
      rw [this]; exact ⟨h1, h2⟩
    · have : gi (l ++ [r]) j = 0 := by
        simp only [gi, List.getD_eq_getElem?_getD]
        rw [List.getElem?_eq_none (by simp; omega)]; rfl
      rw [this]; omega

/-- what a call of extend comes to -/
def Ext (X : Nat → Prop) (J Jx : List (Value × List Int) → World → Prop) (pre : List (Value × List Int)) (L : List (List Int)) (W : World) (c : Bool) (W' : World) : Prop :=
  KeepX X W W' ∧ (c = true → ∃ ys, ys.map (·.2) = L ∧ J (pre ++ ys) W') ∧ (c = false → ∃ ys, ys.map (·.2) <+: L ∧ Jx (pre ++ ys) W')
theorem Ext.none {X : Nat → Prop} {J Jx : List (Value × List Int) → World → Prop} {pre : List (Value × List Int)} {W W' : World} (h : J pre W') (hk : KeepX X W W') : Ext X J Jx pre [] W true W' :=
  ⟨hk, fun _ => ⟨[], rfl, by simpa using h⟩, fun h => by cases h⟩
theorem Ext.mono {X : Nat → Prop} {J Jx : List (Value × List Int) → World → Prop} {pre : List (Value × List Int)} {L : List (List Int)} {W0 W W' : World} {c : Bool} (h : Ext X J Jx pre L W c W') (hk : KeepX X W0 W) : Ext X J Jx pre L W0 c W' :=
  ⟨hk.trans h.1, h.2⟩

/-- what stands in the captured variables -/
structure Caps (X : Nat → Prop) (n l Bn By Be : Nat) (W : World) : Prop where
  n0 : W.heap[Bn]? = some (.cells #[.int .i64 n] 3)
  y0 : W.heap[By]? = some (.cells #[.func (.yield l) #[] #[]] 46)
  e0 : W.heap[Be]? = some (.cells #[.func (.func 52) #[] #[.pointer (some ⟨Bn, 0, none⟩), .pointer (some ⟨By, 0, none⟩), .pointer (some ⟨Be, 0, none⟩)]] 46)
  nx : ¬ X Bn ∧ ¬ X By ∧ ¬ X Be
theorem Caps.keep {X : Nat → Prop} {n l Bn By Be : Nat} {W W' : World} (h : Caps X n l Bn By Be W) (hk : KeepX X W W') : Caps X n l Bn By Be W' :=
  ⟨hk.block h.n0 h.nx.1, hk.block h.y0 h.nx.2.1, hk.block h.e0 h.nx.2.2, h.nx⟩
abbrev Given2 (X : Nat → Prop) (W : World) (v : Value) (l : List Int) : Prop := ReadsS (fun b => b < W.heap.size ∧ ¬ X b) W v l

def YieldOk (X : Nat → Prop) (n l : Nat) (J Jx : List (Value × List Int) → World → Prop) : Prop :=
  ∀ pre x W1, J pre W1 → Given2 X W1 x.1 x.2 → x.2.length = n → YieldAt Fence.wide 0 Try.prog l #[x.1] W1 fun e W' => (e = .returned (.bool true) ∧ J (pre ++ [x]) W' ∧ KeepX X W1 W') ∨ (e = .returned (.bool false) ∧ Jx (pre ++ [x]) W' ∧ KeepX X W1 W')

set_option maxRecDepth 100000 in
set_option maxHeartbeats 3200000 in
theorem extend_in (X : Nat → Prop) (n : Nat) (hn : n ≤ 1000) (l Bn By Be B0 : Nat) (hXB : ∀ b, X b → b < B0) (J Jx : List (Value × List Int) → World → Prop) (hJ : AbidesFrom B0 J) (hY : YieldOk X n l J Jx) :
    ∀ (d : Nat) (lst : List Int) (v : Value) (W : World) (pre : List (Value × List Int)), lst.length + d = n → (∀ j, 0 ≤ gi lst j ∧ gi lst j ≤ 1000) → Given2 X W v lst → B0 ≤ W.heap.size → Caps X n l Bn By Be W → J pre W →
      CallsIn Fence.wide 9 Try.prog 52 #[v, .pointer (some ⟨Bn, 0, none⟩), .pointer (some ⟨By, 0, none⟩), .pointer (some ⟨Be, 0, none⟩)] W fun e W' => ∃ c, e = .returned (.bool c) ∧ Ext X J Jx pre (enumL n d lst) W c W' := by
  intro d
  induction d with
  | zero =>
    intro lst v W pre hd hsm hv hB0 hcap hj
    have hr0 := hv.reads (fun b h => h.1)
    obtain ⟨a, cap, rfl, h1, h2, _⟩ := hv.open
    have HSM := Lib.hid hsm
    clear hsm
    have hn1 := cell_of hcap.n0 (j := 0) rfl
    have hlen : lst.length ≤ 1000 := by omega
    obtain rfl : n = lst.length := by omega
    refine (callsIn_of_wp Try.func52 rfl trivial ?_ rfl)
    simp only [Try.ntmps52, List.size_toArray, List.length_cons, List.length_nil, Nat.reduceAdd, Nat.reduceSub, Array.replicate_succ, Array.replicate_zero, List.push_toArray, List.append_toArray, List.nil_append, List.cons_append]
    rcases hcl : clearB lst with _ | _
    · have HC := Lib.hid hcl
      clear hcl
      gi_wp2_with fail
      refine ⟨trivial, (callsIn_wide.2 (isClear_any _ lst _ (fun j => by have := HSM.out j; omega) (by omega) hr0)).mono ?_⟩
      rintro e w1 ⟨rfl, hb1⟩
      rw [HC.out]
      gi_wp2_with fail
      go_ret
      exact ⟨true, rfl, by rw [enumL, HC.out]; exact Ext.none (hJ _ _ _ none hj (below_grown0 hb1) (fun _ e => by cases e)) (KeepX.of_below hb1)⟩
    · have HC := Lib.hid hcl
      clear hcl
      gi_wp2_with fail
      refine ⟨trivial, (callsIn_wide.2 (isClear_any _ lst _ (fun j => by have := HSM.out j; omega) (by omega) hr0)).mono ?_⟩
      rintro e w1 ⟨rfl, hb1⟩
      rw [HC.out]
      have hk1 : KeepX X W w1 := KeepX.of_below hb1
      have hn2 := cell_of (hcap.keep hk1).n0 (j := 0) rfl
      have hy2 := cell_of (hcap.keep hk1).y0 (j := 0) rfl
      have hj1 := hJ _ _ _ none hj (below_grown0 hb1) (fun _ e => by cases e)
      have hv1 : Given2 X w1 (.slice a lst.length cap) lst := Reads.keepX hv hk1
      obtain ⟨fn, tmps, ca, bd, hy, hR⟩ := hY pre (.slice a lst.length cap, lst) w1 hj1 hv1 rfl
      have hR2 := RoundIn.any 8 hR
      clear hR hY
      gi_wp2_with fail
      refine (hR2.mono (R' := fun e W' => ∃ c, e = .returned (.bool c) ∧ Ext X J Jx pre [lst] w1 c W') ?_).mono ?_
      · rintro e W' (⟨rfl, h3, h4⟩ | ⟨rfl, h3, h4⟩)
        · exact ⟨true, rfl, h4, fun _ => ⟨[(.slice a lst.length cap, lst)], rfl, h3⟩, fun h => (by cases h)⟩
        · exact ⟨false, rfl, h4, fun h => (by cases h), fun _ => ⟨[(.slice a lst.length cap, lst)], List.prefix_rfl, h3⟩⟩
      · rintro e W' ⟨c, rfl, hext⟩
        gi_wp2
        go_ret
        exact ⟨c, rfl, by rw [enumL, HC.out]; exact hext.mono hk1⟩
  | succ d ih =>
    intro lst v W pre hd hsm hv hB0 hcap hj
    have hr0 := hv.reads (fun b h => h.1)
    obtain ⟨a, cap, rfl, h1, h2, _⟩ := hv.open
    have HSM := Lib.hid hsm
    clear hsm
    have hn1 := cell_of hcap.n0 (j := 0) rfl
    have hlen : lst.length ≤ 1000 := by omega
    have hne : ((lst.length : Int) == (n : Int)) = false := by simp; omega
    refine (callsIn_of_wp Try.func52 rfl trivial ?_ rfl)
    simp only [Try.ntmps52, List.size_toArray, List.length_cons, List.length_nil, Nat.reduceAdd, Nat.reduceSub, Array.replicate_succ, Array.replicate_zero, List.push_toArray, List.append_toArray, List.nil_append, List.cons_append]
    rcases hcl : clearB lst with _ | _
    · have HC := Lib.hid hcl
      clear hcl
      gi_wp2_with fail
      refine ⟨trivial, (callsIn_wide.2 (isClear_any _ lst _ (fun j => by have := HSM.out j; omega) (by omega) hr0)).mono ?_⟩
      rintro e w1 ⟨rfl, hb1⟩
      rw [HC.out]
      gi_wp2_with fail
      go_ret
      exact ⟨true, rfl, by rw [enumL, HC.out]; exact Ext.none (hJ _ _ _ none hj (below_grown0 hb1) (fun _ e => by cases e)) (KeepX.of_below hb1)⟩
    · have HC := Lib.hid hcl
      clear hcl
      gi_wp2_with fail
      refine ⟨trivial, (callsIn_wide.2 (isClear_any _ lst _ (fun j => by have := HSM.out j; omega) (by omega) hr0)).mono ?_⟩
      rintro e w1 ⟨rfl, hb1⟩
      rw [HC.out]
      have hk1 : KeepX X W w1 := KeepX.of_below hb1
      have hn2 := cell_of (hcap.keep hk1).n0 (j := 0) rfl
      have hj1 := hJ _ _ _ none hj (below_grown0 hb1) (fun _ e => by cases e)
      have hv1 : Given2 X w1 (.slice a lst.length cap) lst := Reads.keepX hv hk1
      have hB1 : B0 ≤ w1.heap.size := Nat.le_trans hB0 hb1.size
      have hcap1 := hcap.keep hk1
      gi_wp2_with fail
      gi_loopw [6, 18] (fun _ i wr => ∃ (k : Nat) (ys : List (Value × List Int)), k ≤ n ∧ i = .int .i64 k ∧ ys.map (·.2) = enumTo n d lst k ∧ J (pre ++ ys) wr ∧ KeepX X w1 wr) (fun _ i _ => n - (intOf i).toNat)
      case atStart => exact ⟨0, [], by omega, rfl, rfl, by simpa using hj1, KeepX.refl _ _⟩
      case round =>
        obtain ⟨k, ys, hk, rfl, hys, hjs, hkr⟩ := hrel
        have hkw : KeepX X W wr := hk1.trans hkr
        have hvr : Given2 X wr (.slice a lst.length cap) lst := Reads.keepX hv1 hkr
        have hrr := hvr.reads (fun b h => h.1)
        have hcapr := hcap1.keep hkr
        have hBr : B0 ≤ wr.heap.size := Nat.le_trans hB1 hkr.1
        have HYS := Lib.hid hys
        clear hys
        by_cases hlt : k < n
        · by_cases hm : (k : Int) ∈ lst
          · have hm' := Lib.hid hm
            clear hm
            have he0 := cell_of hcapr.e0 (j := 0) rfl
            gi_wp2_with fail
            refine wpIn_wide.2 ?_
            go_quiet ((go_at_call 34; exact (contains_yes _ lst _ _ (hrr.below (below_drewN _ _)) hm'.out).mono (fun e w' h => ⟨h.1, _, h.2.symm⟩)))
            gi_wp2
            go_roundw
            case rel => exact ⟨k + 1, ys, by omega, by go_num, by rw [enumTo_succ, if_pos hm'.out, List.append_nil]; exact HYS.out, hJ _ _ _ none hjs (below_grown0 (below_drewN _ _)) (fun _ e => by cases e), hkr.trans (KeepX.of_below (below_drewN _ _))⟩
            case measure => simp [intOf]; omega
          · have hm' := Lib.hid hm
            clear hm
            have he0 := cell_of hcapr.e0 (j := 0) rfl
            have hBe := heap_lt hcapr.e0
            gi_wp2_with fail
            refine wpIn_wide.2 ?_
            have hsm2 : ∀ j, 0 ≤ gi (lst ++ [(k : Int)]) j ∧ gi (lst ++ [(k : Int)]) j ≤ 1000 := gi_snoc HSM.out (by omega) (by omega)
            have HSM2 := Lib.hid hsm2
            clear hsm2
            go_region_held3 (fun w' => w'.cell? ⟨Be, 0, none⟩ = some (.func (.func 52) #[] #[.pointer (some ⟨Bn, 0, none⟩), .pointer (some ⟨By, 0, none⟩), .pointer (some ⟨Be, 0, none⟩)]))
              (first | go_keep | (rw [hb2.cell (p := ⟨Be, 0, none⟩) hBe]; exact he0) | exact cell_of (hcap2.keep hext.1).e0 (j := 0) rfl)
              (first
                | (go_at_call 34; refine (contains_no _ lst _ _ (hrr.below (Below.refl _ _).drew) hm'.out).mono ?_; rintro e w' ⟨rfl, rfl⟩)
                | (go_at_call 52; have hcap2 := hcapr.keep (KeepX.of_below (X := X) hb2); refine (callsIn_wide.1 (ih (lst ++ [(k : Int)]) v' w2 (pre ++ ys) (by simp; omega) HSM2.out (own_given hown (fun b hb => by have := hXB b hb; omega)) (Nat.le_trans hBr hb2.size) hcap2 (hJ _ _ _ none hjs (below_grown0 hb2) (fun _ e => by cases e)))).mono ?_; rintro e W' ⟨c, rfl, hext⟩)
                | (refine step_append_full (S := fun b => b < wr.heap.size ∧ ¬ X b) (by rfl) _ _ rfl rfl hvr.cut (by omega) (k : Int) rfl ?_; intro v' w2 hown hb2))
            have hext2 := hext.mono (KeepX.of_below (X := X) hb2)
            have HE := Lib.hid hext2
            clear hext hext2
            cases c
            · gi_wp2
              go_ret
              obtain ⟨g1, _, g3⟩ := HE.out
              obtain ⟨zs, g4, g5⟩ := g3 rfl
              refine ⟨false, rfl, hkw.trans g1, fun h => (by cases h), fun _ => ⟨ys ++ zs, ?_, by rw [← List.append_assoc]; exact g5⟩⟩
              rw [List.map_append, HYS.out, enumL, if_pos HC.out]
              refine List.IsPrefix.trans ?_ (enumTo_le n d lst (n - (k + 1)) (k + 1) |>.trans (by rw [show k + 1 + (n - (k + 1)) = n by omega]; exact List.prefix_rfl))
              rw [enumTo_succ, if_neg hm'.out, List.prefix_append_right_inj]; exact g4
            · gi_wp2
              obtain ⟨g1, g2, _⟩ := HE.out
              obtain ⟨zs, g4, g5⟩ := g2 rfl
              go_roundw
              case rel => exact ⟨k + 1, ys ++ zs, by omega, by go_num, by rw [enumTo_succ, if_neg hm'.out, List.map_append, HYS.out, g4], by rw [← List.append_assoc]; exact g5, hkr.trans g1⟩
              case measure => simp [intOf]; omega
        · have hkn : k = n := by omega
          have HK := Lib.hid hkn
          clear hkn
          gi_wp2
          go_ret
          refine ⟨true, rfl, hkw, fun _ => ⟨ys, ?_, hjs⟩, fun h => (by cases h)⟩
          rw [HYS.out, enumL, if_pos HC.out, HK.out]; rfl
end Go.Proofs.Ytlgonmnbedddaaa
