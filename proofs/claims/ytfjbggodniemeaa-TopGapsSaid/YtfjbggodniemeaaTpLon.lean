/- tread: longest's inner function. -/
import Derived.Test.YtfjbggodniemeaaTpLo0
set_option linter.unusedVariables false
set_option linter.unusedSimpArgs false
namespace Go.Proofs.Ytfjbggodniemeaa
open Go.RowKit
attribute [local go_sem] Oper.semAt_some

/-! ### what is computed -/
def rows2 : List (List Int) := (machTo ss2 4).2
def lonV (p : Nat) : Int := gi [2, 0, 1, 0] p
def mxOf (pre : List (Nat × Int)) : Int := pre.foldl (fun a x => max a (lonV x.2.toNat + 1)) 0
theorem mxOf_snoc (pre : List (Nat × Int)) (x : Nat × Int) : mxOf (pre ++ [x]) = max (mxOf pre) (lonV x.2.toNat + 1) := by
  unfold mxOf; rw [List.foldl_append]; rfl
theorem lon_facts : ∀ p, p < 4 → (rows2.getD p []).length = 2 ∧ mxOf (stepsL (rows2.getD p [])) = lonV p ∧ 0 ≤ lonV p ∧ lonV p ≤ 2 ∧ ∀ x ∈ stepsL (rows2.getD p []), x.1 < 2 ∧ 0 ≤ x.2 ∧ x.2 < 4 ∧ lonV x.2.toNat + 1 ≤ lonV p := by decide +kernel
theorem rows2_len : rows2.length = 4 := mach_rows ss2 4

/-! ### memory -/
structure KeepM (bm : Nat) (W W' : World) : Prop where
  os : W'.os = W.os
  tape : W'.tape = W.tape
  output : W'.output = W.output
  size : W.heap.size ≤ W'.heap.size
  block : ∀ k, k < W.heap.size → k ≠ bm → W'.heap[k]? = W.heap[k]?
theorem KeepM.refl (bm : Nat) (W : World) : KeepM bm W W := ⟨rfl, rfl, rfl, Nat.le_refl _, fun _ _ _ => rfl⟩
theorem KeepM.trans {bm : Nat} {A B C : World} (h : KeepM bm A B) (k : KeepM bm B C) : KeepM bm A C := ⟨k.os.trans h.os, k.tape.trans h.tape, k.output.trans h.output, Nat.le_trans h.size k.size, fun i hi hne => (k.block i (Nat.lt_of_lt_of_le hi h.size) hne).trans (h.block i hi hne)⟩
theorem KeepM.of_below {bm : Nat} {A B : World} (h : Below A.heap.size A B) : KeepM bm A B := ⟨h.os, h.tape, h.output, h.size, fun k hk _ => h.block k hk⟩
theorem KeepM.of_grown {bm : Nat} {A B : World} (h : A.grownBy B (some bm)) : KeepM bm A B := ⟨h.os, h.tape, h.output, h.size, fun k hk hne => h.block k hk (fun e => hne (Option.some.inj e))⟩
theorem KeepM.below {bm B : Nat} {W W' : World} (h : KeepM bm W W') (hB : B ≤ bm) (hW : B ≤ W.heap.size) : Below B W W' := ⟨h.os, h.tape, h.output, h.size, fun k hk => h.block k (by omega) (by omega)⟩

structure LonW (W0 : World) (P bm Bk Bx Bf : Nat) (W : World) (kvs : List (Int × Value)) : Prop where
  k : W.heap[Bk]? = some (.cells #[.map (some bm)] 77)
  m : MapIs intKey W bm kvs
  nd : (kvs.map (·.1)).Nodup
  vals : ∀ e ∈ kvs, ∃ q : Nat, q < 4 ∧ (e = ((q : Int), .int .i64 (lonV q)) ∨ e = ((q : Int), .int .i64 (-2)))
  x : W.heap[Bx]? = some (.cells #[.pointer (some ⟨P, 0, none⟩)] 42)
  f : W.heap[Bf]? = some (.cells #[.func (.func 39) #[] #[.pointer (some ⟨Bk, 0, none⟩), .pointer (some ⟨Bx, 0, none⟩), .pointer (some ⟨Bf, 0, none⟩)]] 78)
  b : Below W0.heap.size W0 W
section
variable {W0 W W' : World} {P bm Bk Bx Bf : Nat} {kvs : List (Int × Value)}
theorem LonW.to (h : LonW W0 P bm Bk Bx Bf W kvs) (hc : ∀ (k : Nat) (c : Array Value) (t : TypeId) (fr : Nat × Nat), W.heap[k]? = some (.cells c t fr) → W'.heap[k]? = some (.cells c t fr)) (hm : W'.heap[bm]? = W.heap[bm]?) (hb : Below W0.heap.size W0 W') : LonW W0 P bm Bk Bx Bf W' kvs :=
  ⟨hc _ _ _ _ h.k, h.m.of_block hm, h.nd, h.vals, hc _ _ _ _ h.x, hc _ _ _ _ h.f, hb⟩
theorem LonW.below (h : LonW W0 P bm Bk Bx Bf W kvs) (hb : Below W.heap.size W W') : LonW W0 P bm Bk Bx Bf W' kvs := h.to (fun k c t fr hk => (hb.block k (heap_lt hk)).trans hk) (hb.block _ h.m.lt) (bto h.b hb)
theorem LonW.ne (h : LonW W0 P bm Bk Bx Bf W kvs) {k : Nat} {c : Array Value} {t : TypeId} {fr : Nat × Nat} (hk : W.heap[k]? = some (.cells c t fr)) : k ≠ bm := fun e => by
  obtain ⟨es, clock, h1, _⟩ := h.m
  rw [e, h1] at hk; cases hk
theorem LonW.setCell (h : LonW W0 P bm Bk Bx Bf W kvs) {b : Nat} (h1 : b ≠ bm) (h2 : b ≠ Bk) (h3 : b ≠ Bx) (h4 : b ≠ Bf) (h5 : W0.heap.size ≤ b) (j : Nat) (v : Value) : LonW W0 P bm Bk Bx Bf (W.setCell ⟨b, j, none⟩ v) kvs :=
  ⟨(heap_setCell_other _ _ _ _ (Ne.symm h2)).trans h.k, h.m.of_block (heap_setCell_other _ _ _ _ (Ne.symm h1)), h.nd, h.vals, (heap_setCell_other _ _ _ _ (Ne.symm h3)).trans h.x, (heap_setCell_other _ _ _ _ (Ne.symm h4)).trans h.f, h.b.setCell (p := ⟨b, j, none⟩) h5 _⟩
theorem LonW.grown (h : LonW W0 P bm Bk Bx Bf W kvs) (hg : W.grownBy W' (some bm)) (hbm : W0.heap.size ≤ bm) {kvs' : List (Int × Value)} (hm : MapIs intKey W' bm kvs') (hn : (kvs'.map (·.1)).Nodup) (hv : ∀ e ∈ kvs', ∃ q : Nat, q < 4 ∧ (e = ((q : Int), .int .i64 (lonV q)) ∨ e = ((q : Int), .int .i64 (-2)))) : LonW W0 P bm Bk Bx Bf W' kvs' := by
  have old : ∀ {k : Nat} {c : Array Value} {t : TypeId} {fr : Nat × Nat}, W.heap[k]? = some (.cells c t fr) → W'.heap[k]? = some (.cells c t fr) := fun {k c t fr} hk => (hg.block k (heap_lt hk) (fun e => h.ne hk (Option.some.inj e))).trans hk
  exact ⟨old h.k, hm, hn, hv, old h.x, old h.f, h.b.grown hg h.b.size (fun k e => by have := Option.some.inj e; omega)⟩
end
/-- what is on the way lies above -/
def OnWay (d : Int) (kvs : List (Int × Value)) : Prop := ∀ q : Nat, ((q : Int), Value.int .i64 (-2)) ∈ kvs → d < lonV q
/-- what was known is known; what has come is known, and lies not above d -/
structure Ext (d : Int) (kvs kvs' : List (Int × Value)) : Prop where
  old : ∀ e ∈ kvs, e ∈ kvs'
  new : ∀ e ∈ kvs', e ∈ kvs ∨ ∃ q : Nat, e = ((q : Int), .int .i64 (lonV q)) ∧ lonV q ≤ d
theorem Ext.refl (d : Int) (kvs : List (Int × Value)) : Ext d kvs kvs := ⟨fun _ h => h, fun _ h => .inl h⟩
theorem Ext.trans {d d' : Int} {k1 k2 k3 : List (Int × Value)} (h : Ext d k1 k2) (k : Ext d' k2 k3) (hd : d' ≤ d) : Ext d k1 k3 := ⟨fun e he => k.old e (h.old e he), fun e he => by
  rcases k.new e he with h1 | ⟨q, h1, h2⟩
  · exact h.new e h1
  · exact .inr ⟨q, h1, by omega⟩⟩
theorem lonV_nn (q : Nat) : 0 ≤ lonV q := by
  unfold lonV gi
  rcases q with _ | _ | _ | _ | q <;> simp
theorem OnWay.ext {d d' : Int} {k1 k2 : List (Int × Value)} (h : OnWay d k1) (k : Ext d' k1 k2) : OnWay d k2 := fun q hq => by
  rcases k.new _ hq with h1 | ⟨q', h1, _⟩
  · exact h q h1
  · have h2 := congrArg Prod.snd h1
    simp only [Value.int.injEq, true_and] at h2
    have := lonV_nn q'
    omega
theorem setAt_mem {kvs : List (Int × Value)} {a : Int} {v : Value} {e : Int × Value} (h : e ∈ setAt kvs a v) : e = (a, v) ∨ (e ∈ kvs ∧ e.1 ≠ a) := by
  unfold setAt at h
  obtain ⟨p, hp, he⟩ := List.mem_map.1 h
  split at he
  · exact .inl he.symm
  · subst he; rename_i hne; exact .inr ⟨hp, hne⟩
theorem mem_setAt {kvs : List (Int × Value)} {a : Int} {v : Value} {e : Int × Value} (h : e ∈ kvs) (hne : e.1 ≠ a) : e ∈ setAt kvs a v := by
  unfold setAt
  exact List.mem_map.2 ⟨e, h, by rw [if_neg hne]⟩

theorem lonV_le (q : Nat) : lonV q ≤ 2 := by
  unfold lonV gi
  rcases q with _ | _ | _ | _ | q <;> simp
theorem mxOf_bound (pre : List (Nat × Int)) : 0 ≤ mxOf pre ∧ mxOf pre ≤ 3 := by
  suffices H : ∀ (pre : List (Nat × Int)) (a : Int), 0 ≤ a → a ≤ 3 → 0 ≤ pre.foldl (fun a x => max a (lonV x.2.toNat + 1)) a ∧ pre.foldl (fun a x => max a (lonV x.2.toNat + 1)) a ≤ 3 from H pre 0 (by omega) (by omega)
  intro pre
  induction pre with
  | nil => intro a h1 h2; exact ⟨h1, h2⟩
  | cons x pre ih =>
    intro a h1 h2
    rw [List.foldl_cons]
    have := lonV_le x.2.toNat
    exact ih _ (by omega) (by omega)
theorem keepM_X {bm : Nat} {X : Nat → Prop} {A B : World} (h : KeepM bm A B) (hX : X bm) : KeepX X A B := ⟨h.size, fun b hb hx => h.block b hb (fun e => hx (e ▸ hX))⟩
theorem keepM_from {bm B : Nat} {V V' : World} (h : KeepM bm V V') (hB : bm < B) : KeepsFrom B V V' := ⟨h.size, fun k o hB2 hk _ => (h.block k (heap_lt hk) (by omega)).trans hk⟩
theorem keepX_setX2 {X : Nat → Prop} {W : World} {b j : Nat} (h : X b) (v : Value) : KeepX X W (W.setCell ⟨b, j, none⟩ v) :=
  ⟨by rw [World.size_setCell]; exact Nat.le_refl _, fun q hq hx => heap_setCell_other _ _ _ _ (fun e => hx (by have : q = b := e; rw [this]; exact h))⟩
theorem keepM_set {bm b j : Nat} {W V : World} (h : KeepM bm W V) (hb : W.heap.size ≤ b) (v : Value) : KeepM bm W (V.setCell ⟨b, j, none⟩ v) :=
  ⟨h.os, h.tape, h.output, by rw [World.size_setCell]; exact h.size, fun k hk hne => (heap_setCell_other _ _ _ _ (by show k ≠ b; omega)).trans (h.block k hk hne)⟩
set_option maxRecDepth 100000 in
set_option maxHeartbeats 3200000 in
theorem visit_any (W0 : World) (P bm Bk Bx Bf : Nat) (hM : MRd W0 P 4 rows2) (hbm : W0.heap.size ≤ bm) : ∀ (k p : Nat) (W : World) (kvs : List (Int × Value)), lonV p < (k : Int) → p < 4 → LonW W0 P bm Bk Bx Bf W kvs → OnWay (lonV p) kvs →
    Calls Try.prog 39 #[.int .i64 p, .pointer (some ⟨Bk, 0, none⟩), .pointer (some ⟨Bx, 0, none⟩), .pointer (some ⟨Bf, 0, none⟩)] W fun e W' => e = .returned (.int .i64 (lonV p)) ∧ (∃ kvs', LonW W0 P bm Bk Bx Bf W' kvs' ∧ Ext (lonV p) kvs kvs') ∧ KeepM bm W W' := by
  intro k
  induction k with
  | zero => intro p W kvs h; have := lonV_nn p; omega
  | succ k ih =>
    intro p W kvs hk hp4 hcw how
    have c0 := cell_of hcw.k (j := 0) rfl
    by_cases hin : (p : Int) ∈ kvs.map (·.1)
    · have hv : ((p : Int), Value.int .i64 (lonV p)) ∈ kvs := by
        obtain ⟨x, hx, he⟩ := List.mem_map.1 hin
        obtain ⟨q, hq, rfl | rfl⟩ := hcw.vals x hx
        · have he' : (q : Int) = (p : Int) := he
          have : q = p := by omega
          subst this; exact hx
        · have he' : (q : Int) = (p : Int) := he
          have : q = p := by omega
          subst this
          have := how q hx; omega
      have HV := Lib.hid hv
      have HC := Lib.hid hcw
      have hnn := lonV_nn p
      have hmx : max (lonV p) (-1) = lonV p := by omega
      clear hv hin hcw ih how hM
      refine (callsIn_wide (n := 20)).1 ?_
      refine callsIn_of_wp_marks Try.func39 rfl trivial ?_ rfl
      simp only [Try.ntmps39, List.size_toArray, List.length_cons, List.length_nil, Nat.reduceAdd, Nat.reduceSub, Array.replicate_succ, Array.replicate_zero, List.push_toArray, List.append_toArray, List.nil_append, List.cons_append]
      gi_wp2_with (gi_at_lookup; refine map_lookup_yes_in rfl _ _ _ rfl key_int Try.underlying77 rfl HC.out.m (p : Int) _ rfl HC.out.nd HV.out ?_)
      refine leave_marks (B := W.heap.size) [] W.heap.size _ trivial fun w' hs => ?_
      refine ⟨_, results_tmp rfl _ _ _, ?_, ⟨kvs, HC.out.below hs.below, Ext.refl _ _⟩, KeepM.of_below hs.below⟩
      first | rfl | trace_state
    · have HIN := Lib.hid hin
      have HC := Lib.hid hcw
      have HOW := Lib.hid how
      have IH := Lib.hid ih
      have HZ : Hid ((zeroValue 3).run Try.prog W = .ok (.int .i64 0) W) := Lib.hid (by kernel_rfl)
      obtain ⟨row, hrow⟩ : ∃ r, rows2.getD p [] = r := ⟨_, rfl⟩
      have HF := Lib.hid (lon_facts p hp4)
      rw [hrow] at HF
      clear hin hcw how ih
      refine (callsIn_wide (n := 20)).1 ?_
      refine callsIn_of_wp_marks Try.func39 rfl trivial ?_ rfl
      simp only [Try.ntmps39, List.size_toArray, List.length_cons, List.length_nil, Nat.reduceAdd, Nat.reduceSub, Array.replicate_succ, Array.replicate_zero, List.push_toArray, List.append_toArray, List.nil_append, List.cons_append]
      gi_wp2_with (first
        | (gi_at_lookup; refine map_lookup_no_in rfl _ _ _ rfl key_int Try.underlying77 HZ.out rfl HC.out.m (p : Int) rfl HIN.out ?_)
        | (gi_at_mapUpdate; refine map_update_new_in rfl _ _ _ rfl key_int Try.underlying77 rfl HC.out.m (p : Int) (.int .i64 (-2)) rfl rfl HIN.out ?_; intro W1 hm1 hg1;
            have H1 : Hid (LonW W0 P bm Bk Bx Bf W1 (kvs ++ [((p : Int), .int .i64 (-2))])) := Lib.hid (HC.out.grown hg1 hbm hm1 (by
              rw [List.map_append, List.nodup_append]
              exact ⟨HC.out.nd, by simp, fun a ha b hb => by simp at hb; subst hb; rintro rfl; exact HIN.out ha⟩) (fun e he => by
              rcases List.mem_append.1 he with he | he
              · exact HC.out.vals e he
              · exact ⟨p, hp4, .inr (List.mem_singleton.1 he)⟩));
            have cx : (W1.alloc (.cells #[.int .i64 0] 3)).cell? ⟨Bx, 0, none⟩ = some (.pointer (some ⟨P, 0, none⟩)) := cell_of (alloc_old H1.out.x) (j := 0) rfl))
      refine ⟨trivial, (callsIn_wide.2 (steps_any P p _)).mono ?_⟩
      rintro e w1 ⟨rfl, rfl⟩
      have hal : Below W1.heap.size W1 (((W1.alloc (.cells #[.int .i64 0] 3)).alloc (.cells #[.pointer (some ⟨P, 0, none⟩)] 42)).alloc (.cells #[.int .i64 p] 3)) := (((Below.refl _ _).alloc (Nat.le_refl _) _).alloc (by simp) _).alloc (by simp <;> omega) _
      have hb8 : (((W1.alloc (.cells #[.int .i64 0] 3)).alloc (.cells #[.pointer (some ⟨P, 0, none⟩)] 42)).alloc (.cells #[.int .i64 p] 3)).heap[W1.heap.size]? = some (.cells #[.int .i64 0] 3) := alloc_old (alloc_old (heap_alloc_new _ _))
      have hb1 : (((W1.alloc (.cells #[.int .i64 0] 3)).alloc (.cells #[.pointer (some ⟨P, 0, none⟩)] 42)).alloc (.cells #[.int .i64 p] 3)).heap[W1.heap.size + 1]? = some (.cells #[.pointer (some ⟨P, 0, none⟩)] 42) := alloc_old (heap_alloc_at _ _ _ (by simp))
      have hb2 : (((W1.alloc (.cells #[.int .i64 0] 3)).alloc (.cells #[.pointer (some ⟨P, 0, none⟩)] 42)).alloc (.cells #[.int .i64 p] 3)).heap[W1.heap.size + 1 + 1]? = some (.cells #[.int .i64 p] 3) := heap_alloc_at _ _ _ (by simp)
      have hszB : (((W1.alloc (.cells #[.int .i64 0] 3)).alloc (.cells #[.pointer (some ⟨P, 0, none⟩)] 42)).alloc (.cells #[.int .i64 p] 3)).heap.size = W1.heap.size + 3 := by simp
      have hsA : (W1.alloc (.cells #[.int .i64 0] 3)).heap.size = W1.heap.size + 1 := by simp
      rw [hsA]
      have hw1 : W.heap.size ≤ W1.heap.size := hg1.size
      have hkm := (KeepM.of_grown hg1).trans (KeepM.of_below hal)
      have hlw := H1.out.below hal
      generalize hWB : World.alloc (World.alloc (World.alloc W1 _) _) _ = WB at *
      generalize hB8 : W1.heap.size = B8 at *
      clear hWB hsA hal cx hg1 hm1
      obtain ⟨⟨sa, scap, hsta⟩, ng, ncap, hn1', hn2⟩ := hM
      obtain ⟨rowv, hrowc', hrowR⟩ := hn2 p hp4
      rw [hrow] at hrowR
      have hn1 := (hlw.b.cell (p := ⟨P, 2, none⟩) (World.block_lt_of_cell? _ _ hn1')).trans hn1'
      have hrowc := (hlw.b.cell (p := ⟨ng, p, none⟩) (World.block_lt_of_cell? _ _ hrowc')).trans hrowc'
      have lk := heap_lt HC.out.k
      have lx := heap_lt HC.out.x
      have lf := heap_lt HC.out.f
      have lm := HC.out.m.lt
      have l0 := HC.out.b.size
      have hbmne : bm ≠ B8 := by omega
      gi_wp2_with fail
      have hrr : ReadsS (fun b => b < WB.heap.size ∧ ¬ (b = B8 ∨ b = bm ∨ b = WB.heap.size ∨ b = WB.heap.size + 1)) WB rowv row := (ReadsS.same (S := fun b => b < W0.heap.size) hrowR.s0 (SameS.of_below hlw.b (fun _ h => h))).mono (fun b hb => by omega)
      have hex0 : Ext (lonV p - 1) (kvs ++ [((p : Int), .int .i64 (-2))]) (kvs ++ [((p : Int), .int .i64 (-2))]) := Ext.refl _ _
      refine range_imgs (gf := 30) (lb := #[.pointer (some ⟨B8 + 1, 0, none⟩), .pointer (some ⟨B8 + 1 + 1, 0, none⟩)]) rfl (enters_of Try.func30 (by kernel_rfl) rfl)
        (given_B (steps1_given (fun b => b = B8 ∨ b = bm ∨ b = WB.heap.size ∨ b = WB.heap.size + 1) row P (B8 + 1) (B8 + 1 + 1) ng 4 ncap p _ rowv WB (fun b hb => by omega) hb1 hb2 hn1 hrowc hp4 hrr (by have := HF.out.1; omega)))
        (fun A => KeepX.refl _ _) (fun h k => KeepX.trans h k) (fun W o' => KeepX.putObj (.inr (.inr (.inr rfl)))) (fun _ => rfl)
        (fun pre V => (∃ kvs', LonW W0 P bm Bk Bx Bf V kvs' ∧ Ext (lonV p - 1) (kvs ++ [((p : Int), .int .i64 (-2))]) kvs') ∧ V.heap[B8]? = some (.cells #[.int .i64 (mxOf pre)] 3 (0, 0)) ∧ KeepM bm W V ∧ B8 + 3 ≤ V.heap.size)
        (fun c pre V => False)
        ?a1 ?hI (fun c s W W' row h _ _ => h) ?hIB ⟨⟨_, hlw, hex0⟩, hb8, hkm, by omega⟩ ?assign ?body (fun pre x a' s W W' row h _ _ => h) ?done ?stop
      case assign =>
        intro l x W K hK
        simp only [stepEnc]
        gi_wp2
        exact hK
      case stop =>
        rintro D c pre V hD hpre h
        exact h.elim
      case hI =>
        rintro s V V' row' ⟨⟨kvs', h1, hex⟩, h2, h3, h4⟩ hg hr
        refine ⟨⟨kvs', h1.to (fun k c t fr hk2 => own_cells hg hr hk2) (hg.block _ h1.m.lt (fun e => by have := (hr _ e.symm).1; omega)) (h1.b.grown hg h1.b.size (fun q e => by have := (hr q e).1; omega)), hex⟩, own_block hg hr (by omega) h2, ⟨hg.os.trans h3.os, hg.tape.trans h3.tape, hg.output.trans h3.output, Nat.le_trans h3.size hg.size, fun k hk2 hne => ?_⟩, Nat.le_trans h4 hg.size⟩
        exact (hg.block k (Nat.lt_of_lt_of_le hk2 h3.size) (fun e => by have := (hr _ e.symm).1; omega)).trans (h3.block k hk2 hne)
      case hIB =>
        rintro s V b j v hbb ⟨⟨kvs', h1, hex⟩, h2, h3, h4⟩
        exact ⟨⟨kvs', h1.setCell (by omega) (by omega) (by omega) (by omega) (by omega) j v, hex⟩, (heap_setCell_other _ _ _ _ (by show B8 ≠ b; omega)).trans h2, keepM_set h3 (by omega) v, by simpa using h4⟩
      case body =>
        rintro l pre ⟨c, jj⟩ V hl' ⟨⟨kvs', h1, hex⟩, h2, h3, h4⟩ hpx
        have hmem : (c, jj) ∈ stepsL row := hpx.subset (by simp)
        obtain ⟨hc2, hj0, hj4, hjp⟩ := HF.out.2.2.2.2 _ hmem
        obtain ⟨j, rfl⟩ : ∃ j : Nat, jj = (j : Int) := ⟨jj.toNat, by simp only at hj0; omega⟩
        simp only [Int.toNat_natCast] at hjp
        have hj4' : j < 4 := by simp only at hj4; omega
        have cf := cell_of h1.f (j := 0) rfl
        have hmb := mxOf_bound pre
        have HS := Lib.hid (mxOf_snoc pre (c, (j : Int)))
        simp only [Int.toNat_natCast] at HS
        have hwj : OnWay (lonV j) kvs' := OnWay.ext (fun q hq => by
          rcases List.mem_append.1 hq with hq | hq
          · have := HOW.out q hq; omega
          · have h5 := List.mem_singleton.1 hq
            have h6 := congrArg Prod.fst h5
            have h7 : (q : Int) = (p : Int) := h6
            have : q = p := by omega
            subst this; omega) hex
        have HIJ := Lib.hid (IH.out j V kvs' (by omega) hj4' h1 hwj)
        have H2 := Lib.hid h2
        have H3 := Lib.hid h3
        have HEX := Lib.hid hex
        have hlj := lonV_le j
        have hnj := lonV_nn j
        have hnlt : ¬ lonV j < 0 := by omega
        have hwr : IntKind.i64.wrap (lonV j + 1) = lonV j + 1 := IntWalk.i64_in _ (by omega)
        have l8 := heap_lt h2
        clear h1 h2 h3 hex hmem hc2 hj0 hj4 hpx hwj
        gi_wp2_with fail
        refine ⟨trivial, (callsIn_wide.2 HIJ.out).mono ?_⟩
        rintro e V2 ⟨rfl, ⟨kvs2, h5, h6⟩, h7⟩
        have h82 := (h7.block B8 l8 (Ne.symm hbmne)).trans H2.out
        have c8 := cell_of h82 (j := 0) rfl
        have f8 := free_of h82 0
        have l82 := heap_lt h82
        have H5 := Lib.hid h5
        have H6 := Lib.hid h6
        have H7 := Lib.hid h7
        have H8 := Lib.hid h82
        clear h5 h6 h7 h82 cf HIJ
        gi_wp2_with fail
        exact ⟨(keepM_from H7.out (by omega)).trans (keeps_set _ _ _ _ _), (keepM_X H7.out (.inr (.inl rfl))).trans (keepX_setX2 (.inl rfl) _), ⟨kvs2, H5.out.setCell (by omega) (by omega) (by omega) (by omega) (by omega) _ _, HEX.out.trans H6.out (by omega)⟩, by rw [HS.out]; exact set_heap_same H8.out, keepM_set (H3.out.trans H7.out) (by omega) _, by have := H7.out.size; simp; omega⟩
      case done =>
        rintro D zs V hD rfl ⟨⟨kvs', h1, hex⟩, h2, h3, h4⟩ hK
        rw [HF.out.2.1] at h2
        have hpin : (p : Int) ∈ kvs'.map (·.1) := List.mem_map.2 ⟨((p : Int), .int .i64 (-2)), hex.old _ (by simp), rfl⟩
        have c8 := cell_of h2 (j := 0) rfl
        have ck := cell_of h1.k (j := 0) rfl
        have HPIN := Lib.hid hpin
        have H1' := Lib.hid h1
        have H2 := Lib.hid h2
        have H3 := Lib.hid h3
        have HEX := Lib.hid hex
        clear h1 h2 h3 hex hpin
        gi_wp2_with (gi_at_mapUpdate; refine map_update_set_in rfl _ _ _ rfl Try.underlying77 rfl H1'.out.m H1'.out.nd (p : Int) (.int .i64 (lonV p)) rfl rfl HPIN.out ?_; intro V2 hm2 hg2; have c82 := cell_of ((hg2.block B8 (heap_lt H2.out) (fun e => by have := Option.some.inj e; omega)).trans H2.out) (j := 0) rfl)
        have HK2 : V2.heap[D]? = _ := (hg2.block _ (heap_lt hK) (fun e => by have h0 := Option.some.inj e; omega)).trans hK
        refine leave_marks (B := W.heap.size) _ (D+1) V2 (Marks.add (U := W.heap.size) (ds := []) trivial (by omega) (by omega) HK2) fun w' hs => ?_
        have hk3 := H3.out.trans (KeepM.of_grown hg2)
        have hl2 : LonW W0 P bm Bk Bx Bf V2 (setAt kvs' (p : Int) (.int .i64 (lonV p))) := H1'.out.grown hg2 hbm hm2 (by rw [setAt_keys]; exact H1'.out.nd) (fun e he => by
          rcases setAt_mem he with rfl | ⟨he, _⟩
          · exact ⟨p, hp4, .inl rfl⟩
          · exact H1'.out.vals e he)
        have hsm : KeepM bm W w' := ⟨hs.below.os.trans hk3.os, hs.below.tape.trans hk3.tape, hs.below.output.trans hk3.output, Nat.le_trans hk3.size hs.below.size, fun k hk2 hne => (hs.below.block k hk2).trans (hk3.block k hk2 hne)⟩
        refine ⟨_, results_tmp rfl _ _ _, rfl, ⟨_, hl2.to hs.keep (hs.below.block _ lm) (hl2.b.trans (hs.below.mono l0)), ⟨fun e he => ?_, fun e he => ?_⟩⟩, hsm⟩
        · refine mem_setAt (HEX.out.old e (List.mem_append_left _ he)) (fun h => HIN.out ?_)
          rw [← h]; exact List.mem_map_of_mem (f := (·.1)) he
        · rcases setAt_mem he with rfl | ⟨he, hne⟩
          · exact .inr ⟨p, rfl, Int.le_refl _⟩
          · rcases HEX.out.new e he with h5 | ⟨q, h5, h6⟩
            · rcases List.mem_append.1 h5 with h5 | h5
              · exact .inl h5
              · exact absurd (congrArg Prod.fst (List.mem_singleton.1 h5)) hne
            · exact .inr ⟨q, h5, by omega⟩
end Go.Proofs.Ytfjbggodniemeaa
