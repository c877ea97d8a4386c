import Derived.Test.YtmagkcioplcidacDoorMergeA
import Derived.Test.YtmagkcioplcidacDoorMergeB
import Derived.Laws.StructEq
import Derived.Maps.OwnIn
import Derived.Laws.EntriesVeiled
/- ply: Same. -/
set_option linter.unusedVariables false
set_option linter.unusedSimpArgs false
namespace Go.Proofs.YtmagkcioplcidacDoor
open Go.RowKit Go.Shelf
attribute [local go_sem] Oper.semAt_some

section
variable {α : Type} {n : Nat} {P : Program}
/-- a range statement over such an iterator, where the variable is in a box -/
theorem range_imgs_box {g : Operand} {ps : Array Tmp} {assign body : Code} {Q : Exit → Act → World → Prop} {a : Act} {w : World}
    {gf : Nat} {lb : Array Value} (hg : a.eval g = .func (.func gf) #[] lb) (eg : ∀ args w, (callFunc gf args).run P w = .ok (.enter gf args) w)
    {encs : α → Array Value} {Kp : World → World → Prop} {S Sp : List α → Prop} {Px : List α → α → Prop} (hseq : GivenB (n - 1) P gf lb encs Kp S Sp (fun pre x _ => Px pre x) w)
    (hKt : ∀ {A B C : World}, Kp A B → Kp B C → Kp A C) (hKb : ∀ (W : World) (o' : Obj), Kp W (W.putObj (w.heap.size + 1) o')) (hKa : ∀ (W : World) (o : Obj), Kp W (W.alloc o)) (hps : ∀ x, (encs x).size = ps.size)
    (I : List α → World → Prop) (Ix : Code → List α → World → Prop) (ob : α → Obj) (hob : ∀ x, (ob x).isCells = true) (a₁ : α → Nat → Act) (hI : OwnFrom w.heap.size I) (hIx : ∀ c, OwnFrom w.heap.size (Ix c))
    (hIB : ∀ pre V b j v, w.heap.size ≤ b → I pre V → I pre (V.setCell ⟨b, j, none⟩ v)) (hIs : ∀ pre V, I pre V → w.heap.size ≤ V.heap.size) (h0 : I [] w)
    (hassign : ∀ (l : Nat) (x : α) (W : World) (b : Nat) (K : Act → World → Prop), b = W.heap.size → K (a₁ x b) (W.alloc (ob x)) →
      assign.wpIn (Fence.wide.inRound l) (n - 1 - 1) P (Exit.then K (fun _ _ _ => False)) { tmps := (ps.zip (encs x)).foldl (fun t (p, v) => t.setIfInBounds p v) a.tmps, defers := [] } W)
    (hbody : ∀ (l : Nat) (pre : List α) (x : α) (b : Nat) (W : World), w.heap.size ≤ l → w.heap.size ≤ b → I pre W → W.heap[b]? = some (ob x) → Px pre x → body.wpIn (Fence.wide.inRound l) (n - 1 - 1) P (roundPostK w.heap.size Kp I Ix (pre ++ [x]) W) (a₁ x b) W)
    (hdone : ∀ (D : Nat) (xs : List α) (W : World), w.heap.size ≤ D → S xs → I xs W → W.heap[D]? = some (.deferred (some [])) → Q .normal { a with defers := { target := .collected D, args := #[] } :: a.defers } W)
    (hstop : ∀ (D : Nat) (c : Code) (pre : List α) (W : World), w.heap.size ≤ D → Sp pre → Ix c pre W → W.heap[D]? = some (.deferred (some [])) → c.wpIn Fence.wide n P Q { a with defers := { target := .collected D, args := #[] } :: a.defers } W) :
    (Code.rangeFunc g ps assign body).wpIn Fence.wide n P Q a w :=
  range_bears hg eg hseq hKt hKb hps I Ix hI hIx hIB h0 (fun pre x a' W => ∃ b, w.heap.size ≤ b ∧ a' = a₁ x b ∧ W.heap[b]? = some (ob x) ∧ Px pre x)
    (fun pre x a' s W W' row h hg hr => by
      obtain ⟨b, h1, h2, h3, h4⟩ := h
      refine ⟨b, h1, h2, ?_, h4⟩
      have h5 := hob x
      rcases ho : ob x with ⟨cs, t, fr⟩ | _ | _ | _ | _ | _ | _ | _ | _ | _ <;> rw [ho] at h3 h5 <;> first | exact own_cells hg hr h3 | exact absurd h5 (by simp [Obj.isCells]))
    (fun l pre x W K hi hx hK => hassign l x W _ K rfl (hK _ _ ((KeepsOthers.alloc _ _).from _) (hKa _ _) (hI.alloc _ hi) ⟨_, hIs _ _ hi, rfl, heap_alloc_new _ _, hx⟩))
    (fun l pre x a' W hl hr hi hx => by obtain ⟨b, h1, rfl, h3, h4⟩ := hx; exact hbody l pre x b W hl h1 hi h3 h4) hdone hstop
end
section
variable {F : Fence} {n : Nat} {P : Program} {C : World → Prop}
theorem quiet_valueG {ops : Array Oper} {Q : Act → Prop} {o : Oper} {rest : List Oper} {a : Act} (v : Value) (hw : Region.wanted o (yielded ops a.tmps) = true) (hF : ∀ f, F.fn f) (h : ∀ w', C w' → (execOp a.eval o).run P w' = .ok (.value v) w') (hr : wpQuietIn F n P ops C Q rest (a.put o.dst v)) : wpQuietIn F n P ops C Q (o :: rest) a := by
  refine ⟨fun w _ f _ => hF f, ?_⟩
  rw [if_pos hw]
  exact ⟨v, fun w' hw' => by unfold Oper.quietAtIn; rw [h w' hw']; exact ⟨rfl, rfl⟩, hr⟩
theorem quiet_callG {ops : Array Oper} {Q : Act → Prop} {o : Oper} {rest : List Oper} {a : Act} (v : Value) (f : Nat) (args : Array Value) (hw : Region.wanted o (yielded ops a.tmps) = true) (hF : ∀ f, F.fn f) (hd : F.depth.isSome = true → 1 ≤ n) (h : ∀ w', C w' → (execOp a.eval o).run P w' = .ok (.enter f args) w') (hc : ∀ w', C w' → CallsIn F (n - 1) P f args w' (fun e w'' => e = .returned v ∧ C w''))
    (hr : wpQuietIn F n P ops C Q rest (a.put o.dst v)) : wpQuietIn F n P ops C Q (o :: rest) a := by
  refine ⟨fun w _ f _ => hF f, ?_⟩
  rw [if_pos hw]
  exact ⟨v, fun w' hw' => by unfold Oper.quietAtIn; rw [h w' hw']; exact ⟨rfl, hd, hc w' hw'⟩, hr⟩
theorem quiet_skip {ops : Array Oper} {Q : Act → Prop} {o : Oper} {rest : List Oper} {a : Act} (hw : Region.wanted o (yielded ops a.tmps) = false) (hF : ∀ f, F.fn f) (hr : wpQuietIn F n P ops C Q rest (a.put o.dst undef)) : wpQuietIn F n P ops C Q (o :: rest) a := by
  refine ⟨fun w _ f _ => hF f, ?_⟩
  rw [if_neg (by rw [hw]; simp)]
  exact hr
end

def eqC (c d : Nat → Nat) : Bool := (List.range 6).all fun j => c j == d j
theorem eqC_iff {c d : Nat → Nat} : eqC c d = true ↔ ∀ j, j < 6 → c j = d j := by unfold eqC; simp [List.all_eq_true]
/-- two rows of cells, held against each other -/
theorem eq_cells (c d : Nat → Nat) (w : World) : (Op.equalIn 10000 34 (.agg #[.int .u64 (c 0), .int .u64 (c 1), .int .u64 (c 2), .int .u64 (c 3), .int .u64 (c 4), .int .u64 (c 5)]) (.agg #[.int .u64 (d 0), .int .u64 (d 1), .int .u64 (d 2), .int .u64 (d 3), .int .u64 (d 4), .int .u64 (d 5)])).run Tryd.prog w = .ok (eqC c d) w := by
  have h := equal_ints (q := .u64) (t := 34) (e := 33) Tryd.underlying34 (by kernel_rfl) Tryd.underlying33 (by kernel_rfl) (by kernel_rfl) #[.int .u64 (c 0), .int .u64 (c 1), .int .u64 (c 2), .int .u64 (c 3), .int .u64 (c 4), .int .u64 (c 5)] #[.int .u64 (d 0), .int .u64 (d 1), .int .u64 (d 2), .int .u64 (d 3), .int .u64 (d 4), .int .u64 (d 5)]
    (fun i => (c i : Int)) (fun i => (d i : Int)) (fun i hi => by
      have : i = 0 ∨ i = 1 ∨ i = 2 ∨ i = 3 ∨ i = 4 ∨ i = 5 := by omega
      rcases this with rfl | rfl | rfl | rfl | rfl | rfl <;> exact ⟨rfl, rfl⟩) w
  have e : decide (∀ i ∈ List.range 6, ((c i : Nat) : Int) = ((d i : Nat) : Int)) = eqC c d := by
    rw [Bool.eq_iff_iff, decide_eq_true_eq, eqC_iff]
    refine ⟨fun h j hj => ?_, fun h i hi => ?_⟩
    · have := h j (List.mem_range.2 hj); exact_mod_cast this
    · rw [h i (List.mem_range.1 hi)]
  rw [e] at h
  exact h

theorem field_cells (n : Nat) (c : Nat → Nat) (w : World) : (Instr.field 36 (spF n c) 1).run Tryd.prog w = .ok (.agg #[.int .u64 (c 0), .int .u64 (c 1), .int .u64 (c 2), .int .u64 (c 3), .int .u64 (c 4), .int .u64 (c 5)]) w := by
  kernel_rfl
set_option maxRecDepth 100000 in
set_option maxHeartbeats 3200000 in
theorem Same_any (v u : Value) (cs ds : List Nat) (w : World) (hr : Reads w v (ofNats cs)) (hru : Reads w u (ofNats ds)) (hc : Codes cs) (hd : Codes ds) (hsp : spaceB cs = true) (hsq : spaceB ds = true) (hlen : ds.length = cs.length) (hT : Tab w) :
    Calls Tryd.prog 5 #[v, u] w fun e w' => (firstSame cs ds = none ∧ e = .returned (.tuple #[.slice none 0 0, .int .i64 6]) ∧ Below w.heap.size w w') ∨ (∃ f v', firstSame cs ds = some f ∧ e = .returned (.tuple #[v', .int .i64 0]) ∧ Col w w' v' (ofNats f)) := by
  have hr0 := hr
  have hru0 := hru
  obtain ⟨a, cap, rfl, _, _, _⟩ := hr.open
  obtain ⟨a2, cap2, rfl, _, _, _⟩ := hru.open
  clear hr hru
  refine (callsIn_wide (n := 20)).1 ?_
  refine callsIn_of_wp_marks Tryd.func5 rfl trivial ?_ rfl
  simp only [Tryd.ntmps5, List.size_toArray, List.length_cons, List.length_nil, Nat.reduceAdd, Nat.reduceSub, Array.replicate_succ, Array.replicate_zero, List.push_toArray, List.append_toArray, List.nil_append, List.cons_append]
  gi_wp2_with fail
  have ba : Below w.heap.size w ((w.alloc (.cells #[.slice none 0 0] 22)).alloc (.cells #[.int .i64 0] 24)) := ((Below.refl _ w).alloc (Nat.le_refl _) _).alloc (by simp) _
  have r1 : ((w.alloc (.cells #[.slice none 0 0] 22)).alloc (.cells #[.int .i64 0] 24)).heap[w.heap.size]? = some (.cells #[.slice none 0 0] 22) := alloc_old (heap_alloc_new _ _)
  have r2 : ((w.alloc (.cells #[.slice none 0 0] 22)).alloc (.cells #[.int .i64 0] 24)).heap[w.heap.size + 1]? = some (.cells #[.int .i64 0] 24) := heap_alloc_at _ _ _ (by simp)
  generalize hW0 : World.alloc (World.alloc w _) _ = W0 at *
  clear hW0
  refine ⟨trivial, (callsIn_wide.2 (newSpace_yes _ cs _ (hr0.below ba) hc hsp (hT.below ba))).mono ?_⟩
  rintro e w1 ⟨rfl, hb1⟩
  replace r1 := (hb1.block _ (heap_lt r1)).trans r1
  replace r2 := (hb1.block _ (heap_lt r2)).trans r2
  have hbx := heap_lt r2
  obtain ⟨hs1, hb2⟩ := lay_sp hb1 cs.length (cell cs)
  replace r1 := alloc_old (o' := .cells #[.int .i64 cs.length, .int .u64 (cell cs 0), .int .u64 (cell cs 1), .int .u64 (cell cs 2), .int .u64 (cell cs 3), .int .u64 (cell cs 4), .int .u64 (cell cs 5)] 36) r1
  replace r2 := alloc_old (o' := .cells #[.int .i64 cs.length, .int .u64 (cell cs 0), .int .u64 (cell cs 1), .int .u64 (cell cs 2), .int .u64 (cell cs 3), .int .u64 (cell cs 4), .int .u64 (cell cs 5)] 36) r2
  replace ba := below_to ba ba.size hb2
  have hT2 := hT.below ba
  have hru2 := hru0.below ba
  gi_wp2_with fail
  generalize hW : World.alloc w1 _ = W at *
  generalize hX : w1.heap.size = Bx at *
  clear hW hX hb1 hb2 hr0 hru0
  refine ⟨trivial, (callsIn_wide.2 (newSpace_yes _ ds _ hru2 hd hsq hT2)).mono ?_⟩
  rintro e w2 ⟨rfl, hb3⟩
  have hkey : spV ds = spF cs.length (cell ds) := by unfold spV spF; rw [hlen]
  rw [hkey]
  replace r1 := (hb3.block _ (heap_lt r1)).trans r1
  replace r2 := (hb3.block _ (heap_lt r2)).trans r2
  obtain ⟨hs2, hb4⟩ := lay_sp hb3 cs.length (cell ds)
  replace r1 := alloc_old (o' := .cells #[.int .i64 cs.length, .int .u64 (cell ds 0), .int .u64 (cell ds 1), .int .u64 (cell ds 2), .int .u64 (cell ds 3), .int .u64 (cell ds 4), .int .u64 (cell ds 5)] 36) r1
  replace r2 := alloc_old (o' := .cells #[.int .i64 cs.length, .int .u64 (cell ds 0), .int .u64 (cell ds 1), .int .u64 (cell ds 2), .int .u64 (cell ds 3), .int .u64 (cell ds 4), .int .u64 (cell ds 5)] 36) r2
  replace ba := below_to ba ba.size hb4
  have hs1' := hs1.below hb4
  have hlt2 := hs1'.lt
  obtain ⟨d0, d1, d2, d3, d4, d5, d6⟩ := hs1'.cells
  obtain ⟨e0, e1, e2, e3, e4, e5, e6⟩ := hs2.cells
  clear hb3 hb4 hru2 hT2 hs1
  gi_wp2_with fail
  generalize hW2 : World.alloc w2 _ = W2 at *
  generalize hY : w2.heap.size = By at *
  have hby : By < W2.heap.size := by have := hs2.lt; omega
  clear hW2 d0 d1 d2 d3 d4 d5 d6 e0 e1 e2 e3 e4 e5 e6
  have hsm := smooth_any cs ds W2
  rw [hkey] at hsm
  refine ⟨trivial, (callsIn_wide.2 hsm).mono ?_⟩
  rintro e w3 ⟨rfl, h1, h2, h3, h4⟩
  replace r1 := (h3.block _ (heap_lt r1)).trans r1
  replace r2 := (h3.block _ (heap_lt r2)).trans r2
  have hs1 := hs1'.below h3
  have hs3 := hs2.below h3
  have hbW := below_to ba ba.size h3
  clear hsm hs1' hs2 ba
  generalize hBn : W2.heap.size = Bn at *
  gi_wp2_with fail
  refine range_imgs_box (gf := 25) (lb := #[.pointer (some ⟨Bn, 0, none⟩), .pointer (some ⟨Bn + 1, 0, none⟩)]) rfl (enters_of Tryd.func25 (by kernel_rfl) rfl)
    (smooth1_given (fun b => b = w.heap.size ∨ b = w.heap.size + 1 ∨ b = w3.heap.size ∨ b = w3.heap.size + 1) cs ds hc hd Bn (Bn + 1) _ w3 (by omega) (by omega) (by omega) h1 h2)
    (fun h k => KeepX.trans h k) (fun W o' => KeepX.putObj (.inr (.inr (.inr rfl)))) (fun W o => KeepX.of_below ((Below.refl _ _).alloc (Nat.le_refl _) _)) (fun _ => rfl)
    (fun pre W => W.heap[w.heap.size]? = some (.cells #[.slice none 0 0] 22) ∧ W.heap[w.heap.size + 1]? = some (.cells #[.int .i64 0] 24) ∧ SpF W Bx cs.length (cell cs) ∧ SpF W By cs.length (cell ds) ∧ Below w.heap.size w W ∧ w3.heap.size ≤ W.heap.size ∧ ∀ g ∈ pre, sameB cs ds g = false)
    (fun c pre W => c = .ret ∧ ∃ v' p f, W.heap[w.heap.size]? = some (.cells #[v'] 22) ∧ W.heap[w.heap.size + 1]? = some (.cells #[.int .i64 0] 24) ∧ Col w W v' (ofNats f) ∧ pre = p ++ [f] ∧ sameB cs ds f = true ∧ ∀ g ∈ p, sameB cs ds g = false)
    (fun x => .cells #[.int .i64 (cell x 0), .int .i64 (cell x 1), .int .i64 (cell x 2), .int .i64 (cell x 3), .int .i64 (cell x 4), .int .i64 (cell x 5)] 43) (fun _ => rfl) ?a1 ?hI ?hIx ?hIB (fun pre V h => h.2.2.2.2.2.1) ⟨r1, r2, hs1, hs3, hbW, Nat.le_refl _, by simp⟩ ?assign ?body ?done ?stop
  case assign =>
    intro l x W b K hb hK
    simp only [imgEnc]
    gi_wp2
    rw [← hb]
    exact hK
  case hI =>
    rintro s W W' row ⟨h1, h2, h3, h4, h5, h6, h7⟩ hg hr
    exact ⟨own_block hg hr (by omega) h1, own_block hg hr (by omega) h2, own_block hg hr (by omega) h3, own_block hg hr (by omega) h4, h5.grown hg h5.size (fun k e => by have := (hr k e).1; omega), Nat.le_trans h6 hg.size, h7⟩
  case hIx =>
    rintro c s W W' row ⟨hc, v', p, f, h1, h2, h3, h4, h5, h6⟩ hg hr
    exact ⟨hc, v', p, f, own_block hg hr (by omega) h1, own_block hg hr (by omega) h2, h3.grownW hg hr (by omega), h4, h5, h6⟩
  case hIB =>
    rintro s W b j v hb ⟨h1, h2, h3, h4, h5, h6, h7⟩
    exact ⟨(heap_setCell_other _ _ _ _ (by show w.heap.size ≠ b; omega)).trans h1, (heap_setCell_other _ _ _ _ (by show w.heap.size + 1 ≠ b; omega)).trans h2, h3.other (by omega), h4.other (by omega), h5.setCell (p := ⟨b, j, none⟩) (by show w.heap.size ≤ b; omega) _, by simpa using h6, h7⟩
  case body =>
    rintro l pre x b W hl hbb ⟨h1, h2, h3, h4, h5, h6, h7⟩ him0 ⟨hxl, hxm⟩
    have him : ImF W b (cell x) := him0
    have hx6 : ∀ q, cell x q < 6 := fun q => by
      by_cases hq : q < x.length
      · have := cell_lt hxm hq; have := hd.2.1; omega
      · rw [cell_far (by omega)]; decide
    have hxn : ∀ i, i < cs.length → cell x i < cs.length := fun i hi => by have := cell_lt hxm (p := i) (by omega); omega
    have HPS := Lib.hid (prog_same (f := x) hc hd hlen hxn)
    have HX6 := Lib.hid hx6
    have hn6 := hc.2.1
    have dn := h3.n
    have H1 := Lib.hid h1
    have H2 := Lib.hid h2
    have H3 := Lib.hid h3
    have H4 := Lib.hid h4
    have H5 := Lib.hid h5
    have H7 := Lib.hid h7
    have HIM := Lib.hid him
    have HC := Lib.hid hc
    clear h1 h2 h3 h4 h5 h7 him him0 hx6 hxn hc hd hsp hsq hxm
    gi_wp2_with fail
    gi_loopw [11, 12, 40] (fun s _ i wr => ∃ p : Nat, p ≤ cs.length ∧ i = .int .i64 p ∧ s = .int .u64 (ptsTo (cell x) p : Nat) ∧ wr = W) (fun _ _ i _ => cs.length - (intOf i).toNat)
    case atStart => exact ⟨0, by omega, rfl, rfl, rfl⟩
    case round =>
      obtain ⟨p, hp, rfl, rfl, rfl⟩ := hrel
      by_cases hlt : p < cs.length
      · have k0 : (0 : Int) ≤ (p : Int) := by omega
        have k1 : (p : Int) < (cs.length : Int) := by omega
        have k6 : (p : Int) < 6 := by omega
        have q1 := HIM.out.cell (p := p) (by omega)
        have hf6 := HX6.out p
        have y0 : (0 : Int) ≤ (cell x p : Int) := by omega
        have hpl := ptsTo_lt HX6.out p
        have hsh := shl_num (cell x p) hf6
        have hor : bits .or .u64 (ptsTo (cell x) p : Int) ((2 : Int) ^ cell x p) = ((ptsTo (cell x) p ||| 2 ^ cell x p : Nat) : Int) := by
          have := u64_or (ptsTo (cell x) p) (2 ^ cell x p) (by omega) (by have := pow_lt64 hf6; omega)
          rwa [show (((2 ^ cell x p : Nat) : Int)) = (2 : Int) ^ cell x p by push_cast; rfl] at this
        have HST : Hid (ptsTo (cell x) (p + 1) = ptsTo (cell x) p ||| 2 ^ cell x p) := Lib.hid rfl
        generalize ptsTo (cell x) p = X at *
        gi_wp2_with fail
        go_roundw
        case rel => exact ⟨p + 1, by omega, by go_num, by rw [HST.out], by trivial⟩
        case measure => simp [intOf]; omega
      · obtain rfl : p = cs.length := by omega
        have k1 : ¬ (cs.length : Int) < (cs.length : Int) := by omega
        gi_wp2_with fail
        have HALL : Hid (∀ V, Calls Tryd.prog 12 #[spV cs] V fun e w' => e = .returned (.int .u64 (allN cs.length : Nat)) ∧ Below V.heap.size V w') := Lib.hid (fun V => all_any cs V hn6)
        generalize hPT : ptsTo (cell x) cs.length = PT at *
        generalize hAN : allN cs.length = AN at *
        by_cases hpt : PT = AN
        · have hpe : (PT : Int) = (AN : Int) := by omega
          have HMV := Lib.hid (fun V hTV => moved_any cs (cell x) V HC.out HX6.out hTV)
          have HSAM : Hid ((∀ j, mvTo cs (cell x) cs.length j = cell ds j) ↔ sameB cs ds x = true) := Lib.hid ⟨fun h => HPS.out.1 ⟨hpt, h⟩, fun h => (HPS.out.2 h).2⟩
          have HM6 : Hid (∀ j, 6 ≤ j → mvTo cs (cell x) cs.length j = cell ds j) := Lib.hid (fun j hj => by
            rw [cell_far (by omega)]
            refine Nat.eq_of_testBit_eq fun y => ?_
            rw [Nat.zero_testBit]
            rcases hb : (mvTo cs (cell x) cs.length j).testBit y with _ | _
            · rfl
            · obtain ⟨p, q, _, h2, _⟩ := (mvTo_bit cs (cell x) HC.out j y _).1 hb
              have := HX6.out p
              omega)
          generalize mvTo cs (cell x) cs.length = MV at *
          clear hpt hPT hAN
          rcases heq : eqC MV (cell ds) with _ | _
          · have HEQ := Lib.hid heq
            have hno : sameB cs ds x = false := by
              rcases hs : sameB cs ds x with _ | _
              · rfl
              · have := HSAM.out.2 hs
                rw [eqC_iff.2 (fun j _ => this j)] at heq; cases heq
            have HNO := Lib.hid hno
            clear hno heq HSAM HM6
            refine region_thenC (C := fun V => Below wr.heap.size wr V) 12 rfl rfl rfl (by kernel_rfl) (by kernel_rfl) (by kernel_rfl) (by kernel_rfl) (by kernel_rfl) (by kernel_rfl) (Below.refl _ _).drew ?_
            dsimp only [List.dropLast]
            refine quiet_valueG (.int .u64 PT) rfl (fun _ => trivial) (fun V' hC => by go_simp) ?_
            simp only [Act.put, List.setIfInBounds_toArray, List.set_cons_zero, List.set_cons_succ]
            refine quiet_valueG (spV cs) rfl (fun _ => trivial) (fun V' hC => ?_) ?_
            · obtain ⟨d0, d1, d2, d3, d4, d5, d6⟩ := (H3.out.below hC).cells
              clear hC
              go_simp
            simp only [Act.put, List.setIfInBounds_toArray, List.set_cons_zero, List.set_cons_succ]
            refine quiet_callG (.int .u64 AN) 12 #[spV cs] rfl (fun _ => trivial) (fun h => by simp [Fence.wide, Fence.inRound] at h) (fun V' hC => ?_) (fun V' hC => ?_) ?_
            · clear hC
              go_simp
            · exact (callsIn_wide.2 (HALL.out V')).mono fun e V'' h => ⟨h.1, below_to hC hC.size h.2⟩
            simp only [Act.put, List.setIfInBounds_toArray, List.set_cons_zero, List.set_cons_succ]
            refine quiet_valueG (.bool true) rfl (fun _ => trivial) (fun V' hC => ?_) ?_
            · clear hC
              go_simp
            simp only [Act.put, List.setIfInBounds_toArray, List.set_cons_zero, List.set_cons_succ]
            refine quiet_valueG (.bool true) rfl (fun _ => trivial) (fun V' hC => by go_simp) ?_
            simp only [Act.put, List.setIfInBounds_toArray, List.set_cons_zero, List.set_cons_succ]
            refine quiet_valueG (spV cs) (by kernel_rfl) (fun _ => trivial) (fun V' hC => ?_) ?_
            · obtain ⟨d0, d1, d2, d3, d4, d5, d6⟩ := (H3.out.below hC).cells
              clear hC
              go_simp
            simp only [Act.put, List.setIfInBounds_toArray, List.set_cons_zero, List.set_cons_succ]
            refine quiet_valueG (imF (cell x)) (by kernel_rfl) (fun _ => trivial) (fun V' hC => ?_) ?_
            · obtain ⟨d0, d1, d2, d3, d4, d5⟩ := (HIM.out.below hC).cells
              clear hC
              go_simp
            simp only [Act.put, List.setIfInBounds_toArray, List.set_cons_zero, List.set_cons_succ]
            refine quiet_callG (spF cs.length MV) 13 #[spV cs, imF (cell x)] (by kernel_rfl) (fun _ => trivial) (fun h => by simp [Fence.wide, Fence.inRound] at h) (fun V' hC => ?_) (fun V' hC => ?_) ?_
            · clear hC
              go_simp
            · exact (callsIn_wide.2 (HMV.out V' (hT.below (below_to H5.out H5.out.size hC)))).mono fun e V'' h => ⟨h.1, below_to hC hC.size h.2⟩
            simp only [Act.put, List.setIfInBounds_toArray, List.set_cons_zero, List.set_cons_succ]
            refine quiet_valueG (.agg #[.int .u64 (MV 0), .int .u64 (MV 1), .int .u64 (MV 2), .int .u64 (MV 3), .int .u64 (MV 4), .int .u64 (MV 5)]) (by kernel_rfl) (fun _ => trivial) (fun V' hC => ?_) ?_
            · clear hC
              go_simp
              rw [field_cells]; rfl
            simp only [Act.put, List.setIfInBounds_toArray, List.set_cons_zero, List.set_cons_succ]
            refine quiet_valueG (.pointer (some ⟨By, 1, none⟩)) (by kernel_rfl) (fun _ => trivial) (fun V' hC => ?_) ?_
            · clear hC
              go_simp
            simp only [Act.put, List.setIfInBounds_toArray, List.set_cons_zero, List.set_cons_succ]
            refine quiet_valueG (.agg #[.int .u64 (cell ds 0), .int .u64 (cell ds 1), .int .u64 (cell ds 2), .int .u64 (cell ds 3), .int .u64 (cell ds 4), .int .u64 (cell ds 5)]) (by kernel_rfl) (fun _ => trivial) (fun V' hC => ?_) ?_
            · obtain ⟨d0, d1, d2, d3, d4, d5, d6⟩ := (H4.out.below hC).cells
              clear hC
              go_simp
            simp only [Act.put, List.setIfInBounds_toArray, List.set_cons_zero, List.set_cons_succ]
            refine quiet_valueG (.bool false) (by kernel_rfl) (fun _ => trivial) (fun V' hC => ?_) ?_
            · clear hC
              have hq := eq_cells MV (cell ds) V'
              rw [HEQ.out] at hq
              go_simp
            simp only [Act.put, List.setIfInBounds_toArray, List.set_cons_zero, List.set_cons_succ]
            refine wpQuietIn_nil fun V' hC => ?_
            have HB := Lib.hid hC
            clear hC
            go_simp
            go_at_K
            gi_wp2_with fail
            refine ⟨⟨HB.out.size, fun k o hB hk _ => (HB.out.block k (heap_lt hk)).trans hk⟩, KeepX.of_below HB.out, (HB.out.block _ (heap_lt H1.out)).trans H1.out, (HB.out.block _ (heap_lt H2.out)).trans H2.out, H3.out.below HB.out, H4.out.below HB.out, below_to H5.out H5.out.size HB.out, Nat.le_trans h6 HB.out.size, fun g hg => ?_⟩
            rcases List.mem_append.1 hg with hg | hg
            · exact H7.out g hg
            · rw [List.mem_singleton.1 hg]; exact HNO.out
          · have HEQ := Lib.hid heq
            have hyes : sameB cs ds x = true := HSAM.out.1 fun j => by
              by_cases hj : j < 6
              · exact eqC_iff.1 heq j hj
              · exact HM6.out j (by omega)
            have HYES := Lib.hid hyes
            clear hyes heq HSAM HM6
            refine region_thenC (C := fun V => Below wr.heap.size wr V) 12 rfl rfl rfl (by kernel_rfl) (by kernel_rfl) (by kernel_rfl) (by kernel_rfl) (by kernel_rfl) (by kernel_rfl) (Below.refl _ _).drew ?_
            dsimp only [List.dropLast]
            refine quiet_valueG (.int .u64 PT) rfl (fun _ => trivial) (fun V' hC => by go_simp) ?_
            simp only [Act.put, List.setIfInBounds_toArray, List.set_cons_zero, List.set_cons_succ]
            refine quiet_valueG (spV cs) rfl (fun _ => trivial) (fun V' hC => ?_) ?_
            · obtain ⟨d0, d1, d2, d3, d4, d5, d6⟩ := (H3.out.below hC).cells
              clear hC
              go_simp
            simp only [Act.put, List.setIfInBounds_toArray, List.set_cons_zero, List.set_cons_succ]
            refine quiet_callG (.int .u64 AN) 12 #[spV cs] rfl (fun _ => trivial) (fun h => by simp [Fence.wide, Fence.inRound] at h) (fun V' hC => ?_) (fun V' hC => ?_) ?_
            · clear hC
              go_simp
            · exact (callsIn_wide.2 (HALL.out V')).mono fun e V'' h => ⟨h.1, below_to hC hC.size h.2⟩
            simp only [Act.put, List.setIfInBounds_toArray, List.set_cons_zero, List.set_cons_succ]
            refine quiet_valueG (.bool true) rfl (fun _ => trivial) (fun V' hC => ?_) ?_
            · clear hC
              go_simp
            simp only [Act.put, List.setIfInBounds_toArray, List.set_cons_zero, List.set_cons_succ]
            refine quiet_valueG (.bool true) rfl (fun _ => trivial) (fun V' hC => by go_simp) ?_
            simp only [Act.put, List.setIfInBounds_toArray, List.set_cons_zero, List.set_cons_succ]
            refine quiet_valueG (spV cs) (by kernel_rfl) (fun _ => trivial) (fun V' hC => ?_) ?_
            · obtain ⟨d0, d1, d2, d3, d4, d5, d6⟩ := (H3.out.below hC).cells
              clear hC
              go_simp
            simp only [Act.put, List.setIfInBounds_toArray, List.set_cons_zero, List.set_cons_succ]
            refine quiet_valueG (imF (cell x)) (by kernel_rfl) (fun _ => trivial) (fun V' hC => ?_) ?_
            · obtain ⟨d0, d1, d2, d3, d4, d5⟩ := (HIM.out.below hC).cells
              clear hC
              go_simp
            simp only [Act.put, List.setIfInBounds_toArray, List.set_cons_zero, List.set_cons_succ]
            refine quiet_callG (spF cs.length MV) 13 #[spV cs, imF (cell x)] (by kernel_rfl) (fun _ => trivial) (fun h => by simp [Fence.wide, Fence.inRound] at h) (fun V' hC => ?_) (fun V' hC => ?_) ?_
            · clear hC
              go_simp
            · exact (callsIn_wide.2 (HMV.out V' (hT.below (below_to H5.out H5.out.size hC)))).mono fun e V'' h => ⟨h.1, below_to hC hC.size h.2⟩
            simp only [Act.put, List.setIfInBounds_toArray, List.set_cons_zero, List.set_cons_succ]
            refine quiet_valueG (.agg #[.int .u64 (MV 0), .int .u64 (MV 1), .int .u64 (MV 2), .int .u64 (MV 3), .int .u64 (MV 4), .int .u64 (MV 5)]) (by kernel_rfl) (fun _ => trivial) (fun V' hC => ?_) ?_
            · clear hC
              go_simp
              rw [field_cells]; rfl
            simp only [Act.put, List.setIfInBounds_toArray, List.set_cons_zero, List.set_cons_succ]
            refine quiet_valueG (.pointer (some ⟨By, 1, none⟩)) (by kernel_rfl) (fun _ => trivial) (fun V' hC => ?_) ?_
            · clear hC
              go_simp
            simp only [Act.put, List.setIfInBounds_toArray, List.set_cons_zero, List.set_cons_succ]
            refine quiet_valueG (.agg #[.int .u64 (cell ds 0), .int .u64 (cell ds 1), .int .u64 (cell ds 2), .int .u64 (cell ds 3), .int .u64 (cell ds 4), .int .u64 (cell ds 5)]) (by kernel_rfl) (fun _ => trivial) (fun V' hC => ?_) ?_
            · obtain ⟨d0, d1, d2, d3, d4, d5, d6⟩ := (H4.out.below hC).cells
              clear hC
              go_simp
            simp only [Act.put, List.setIfInBounds_toArray, List.set_cons_zero, List.set_cons_succ]
            refine quiet_valueG (.bool true) (by kernel_rfl) (fun _ => trivial) (fun V' hC => ?_) ?_
            · clear hC
              have hq := eq_cells MV (cell ds) V'
              rw [HEQ.out] at hq
              go_simp
            simp only [Act.put, List.setIfInBounds_toArray, List.set_cons_zero, List.set_cons_succ]
            refine wpQuietIn_nil fun V' hC => ?_
            have HB := Lib.hid hC
            have hn := (H3.out.below hC).n
            have hrx : Reads V' (.slice (some ⟨b, 0, none⟩) (ofNats x).length 6) (ofNats x) := by
              refine ⟨some ⟨b, 0, none⟩, 6, rfl, by rw [ofNats_len]; omega, by simp [maxLen], .inr ⟨b, 0, rfl, (HIM.out.below hC).lt, fun j hj => ?_⟩⟩
              rw [Nat.zero_add, gi_nats]
              exact (HIM.out.below hC).cell (by rw [ofNats_len] at hj; omega)
            have hol : (ofNats x).length = cs.length := by rw [ofNats_len]; exact hxl
            have HCL := Lib.hid (clone_any _ (ofNats x) V' hrx (by omega))
            rw [hol] at HCL
            have n6 : (cs.length : Int) ≤ 6 := by omega
            have n0 : (0 : Int) ≤ (cs.length : Int) := by omega
            clear hC hrx hol
            go_simp
            go_at_K
            gi_wp2_with fail
            refine ⟨trivial, (callsIn_wide.2 HCL.out).mono ?_⟩
            rintro e W' ⟨v', rfl, hcol⟩
            obtain ⟨va, vl, vc, rfl⟩ := hcol.isSlice
            have HCOL := Lib.hid hcol
            have hbb := hcol.below
            have r1 := (hbb.block _ (heap_lt ((HB.out.block _ (heap_lt H1.out)).trans H1.out))).trans ((HB.out.block _ (heap_lt H1.out)).trans H1.out)
            have r2 := (hbb.block _ (heap_lt ((HB.out.block _ (heap_lt H2.out)).trans H2.out))).trans ((HB.out.block _ (heap_lt H2.out)).trans H2.out)
            have f1 := free_of r1 0
            have f2 := free_of r2 0
            have c1 := cell_of r1 (j := 0) rfl
            have c2 := cell_of r2 (j := 0) rfl
            have R1 := Lib.hid r1
            have R2 := Lib.hid r2
            clear hcol hbb r1 r2 hn
            gi_wp2_with fail
            have hBB : Below wr.heap.size wr W' := below_to HB.out HB.out.size HCOL.out.below
            have hVl : w3.heap.size ≤ V'.heap.size := Nat.le_trans h6 HB.out.size
            have hfar : ∀ g, (Value.slice va vl vc).ownBlock = some g → V'.heap.size ≤ g := fun g hg => (World.ownsRow.lt HCOL.out.own g hg).1
            have hW3 : w.heap.size + 1 < w3.heap.size := by omega
            refine ⟨(KeepsFrom.trans ⟨hBB.size, fun k o hB hk _ => (hBB.block k (heap_lt hk)).trans hk⟩ (keeps_set _ _ _ _ _)).trans (keeps_set _ _ _ _ _), ⟨by simpa using hBB.size, fun k hk hx => ?_⟩, rfl, _, pre, x, set_other (set_same R1.out) (by omega), set_same (set_other R2.out (by omega)), ?_, rfl, HYES.out, H7.out⟩
            · exact (heap_setCell_other _ _ _ _ (fun e => hx (.inr (.inl e)))).trans ((heap_setCell_other _ _ _ _ (fun e => hx (.inl e))).trans (hBB.block k hk))
            · exact ((HCOL.out.lower (below_to H5.out H5.out.size HB.out)).setOther (fun g hg => by have := hfar g hg; omega) (Nat.le_refl _) _).setOther (fun g hg => by have := hfar g hg; omega) (by simp) _
        · have hpe : ¬ (PT : Int) = (AN : Int) := by omega
          have hno : sameB cs ds x = false := by
            rcases hs : sameB cs ds x with _ | _
            · rfl
            · exact absurd (HPS.out.2 hs).1 hpt
          have HNO := Lib.hid hno
          clear hno hpt HPS hPT hAN
          refine region_thenC (C := fun V => Below wr.heap.size wr V) 12 rfl rfl rfl (by kernel_rfl) (by kernel_rfl) (by kernel_rfl) (by kernel_rfl) (by kernel_rfl) (by kernel_rfl) (Below.refl _ _).drew ?_
          dsimp only [List.dropLast]
          refine quiet_valueG (.int .u64 PT) rfl (fun _ => trivial) (fun V' hC => by go_simp) ?_
          simp only [Act.put, List.setIfInBounds_toArray, List.set_cons_zero, List.set_cons_succ]
          refine quiet_valueG (spV cs) rfl (fun _ => trivial) (fun V' hC => ?_) ?_
          · obtain ⟨d0, d1, d2, d3, d4, d5, d6⟩ := (H3.out.below hC).cells
            clear hC
            go_simp
          simp only [Act.put, List.setIfInBounds_toArray, List.set_cons_zero, List.set_cons_succ]
          refine quiet_callG (.int .u64 AN) 12 #[spV cs] rfl (fun _ => trivial) (fun h => by simp [Fence.wide, Fence.inRound] at h) (fun V' hC => ?_) (fun V' hC => ?_) ?_
          · clear hC
            go_simp
          · exact (callsIn_wide.2 (HALL.out V')).mono fun e V'' h => ⟨h.1, below_to hC hC.size h.2⟩
          simp only [Act.put, List.setIfInBounds_toArray, List.set_cons_zero, List.set_cons_succ]
          refine quiet_valueG (.bool false) rfl (fun _ => trivial) (fun V' hC => ?_) ?_
          · clear hC
            go_simp
          simp only [Act.put, List.setIfInBounds_toArray, List.set_cons_zero, List.set_cons_succ]
          refine quiet_valueG (.bool false) rfl (fun _ => trivial) (fun V' hC => by go_simp) ?_
          simp only [Act.put, List.setIfInBounds_toArray, List.set_cons_zero, List.set_cons_succ]
          iterate 7
            refine quiet_skip (by kernel_rfl) (fun _ => trivial) ?_
            simp only [Act.put, List.setIfInBounds_toArray, List.set_cons_zero, List.set_cons_succ]
          refine wpQuietIn_nil fun V' hC => ?_
          have HB := Lib.hid hC
          clear hC
          go_simp
          go_at_K
          gi_wp2_with fail
          refine ⟨⟨HB.out.size, fun k o hB hk _ => (HB.out.block k (heap_lt hk)).trans hk⟩, KeepX.of_below HB.out, (HB.out.block _ (heap_lt H1.out)).trans H1.out, (HB.out.block _ (heap_lt H2.out)).trans H2.out, H3.out.below HB.out, H4.out.below HB.out, below_to H5.out H5.out.size HB.out, Nat.le_trans h6 HB.out.size, fun g hg => ?_⟩
          rcases List.mem_append.1 hg with hg | hg
          · exact H7.out g hg
          · rw [List.mem_singleton.1 hg]; exact HNO.out
  case done =>
    rintro D zs W hD rfl ⟨h1, h2, h3, h4, h5, h6, h7⟩ hK
    have hnone : firstSame cs ds = none := by
      rw [← first_smooth hc, List.find?_eq_none]
      intro g hg; rw [h7 g hg]; simp
    have f1 := free_of h1 0
    have f2 := free_of h2 0
    have c1 := cell_of h1 (j := 0) rfl
    have c2 := cell_of h2 (j := 0) rfl
    have hm := (show Marks w.heap.size w.heap.size [] W from trivial).add (D := D) (by omega) (by omega) hK
    gi_wp2_with fail
    refine leave_marks _ _ _ ((hm.setCell _ _ _).setCell _ _ _) fun w' hs => ?_
    refine ⟨_, results_cells2 (g1 := w.heap.size) (g2 := w.heap.size + 1) rfl rfl rfl (loadVar_cell (by kernel_rfl) (hs.keep _ _ _ _ (set_other (set_same h1) (by omega)))) (loadVar_cell (by kernel_rfl) (hs.keep _ _ _ _ (set_same (set_other h2 (by omega))))), ?_⟩
    exact .inl ⟨hnone, rfl, ((h5.setCell (p := ⟨w.heap.size, 0, none⟩) (Nat.le_refl _) _).setCell (p := ⟨w.heap.size + 1, 0, none⟩) (by simp) _).trans hs.below⟩
  case stop =>
    rintro D c pre W hD hpre ⟨rfl, v', p, f, h1, h2, h3, rfl, h5, h6⟩ hK
    have hm := (show Marks w.heap.size w.heap.size [] W from trivial).add (D := D) (by omega) (by omega) hK
    have hsome : firstSame cs ds = some f := by
      rw [← first_smooth hc]
      obtain ⟨r, hr⟩ := hpre
      rw [← hr, List.append_assoc, List.find?_append, List.find?_eq_none.2 (fun g hg => by rw [h6 g hg]; simp)]
      simp [h5]
    gi_wp2_with fail
    refine leave_marks _ _ _ hm fun w' hs => ?_
    refine ⟨_, results_cells2 (g1 := w.heap.size) (g2 := w.heap.size + 1) rfl rfl rfl (loadVar_cell (by kernel_rfl) (hs.keep _ _ _ _ h1)) (loadVar_cell (by kernel_rfl) (hs.keep _ _ _ _ h2)), ?_⟩
    exact .inr ⟨f, v', hsome, rfl, h3.shut hs⟩
end Go.Proofs.YtmagkcioplcidacDoor

/- ply: Same, where one of the lists is no space, or the spaces have different numbers of points. -/
set_option linter.unusedVariables false
set_option linter.unusedSimpArgs false
namespace Go.Proofs.YtmagkcioplcidacDoor
open Go.RowKit Go.Shelf
attribute [local go_sem] Oper.semAt_some

set_option maxRecDepth 100000 in
set_option maxHeartbeats 1600000 in
theorem Same_no (v u : Value) (l m : List Int) (w : World) (hr : Reads w v l) (hru : Reads w u m) (h : (spL l && spL m) = false) (hT : Tab w) :
    Calls Tryd.prog 5 #[v, u] w fun e w' => e = .returned (.tuple #[.slice none 0 0, .int .i64 2]) ∧ Below w.heap.size w w' := by
  have hr0 := hr
  have hru0 := hru
  obtain ⟨a, cap, rfl, _, _, _⟩ := hr.open
  obtain ⟨a2, cap2, rfl, _, _, _⟩ := hru.open
  clear hr hru
  refine (callsIn_wide (n := 20)).1 ?_
  refine callsIn_of_wp_marks Tryd.func5 rfl trivial ?_ rfl
  simp only [Tryd.ntmps5, List.size_toArray, List.length_cons, List.length_nil, Nat.reduceAdd, Nat.reduceSub, Array.replicate_succ, Array.replicate_zero, List.push_toArray, List.append_toArray, List.nil_append, List.cons_append]
  gi_wp2_with fail
  have ba : Below w.heap.size w ((w.alloc (.cells #[.slice none 0 0] 22)).alloc (.cells #[.int .i64 0] 24)) := ((Below.refl _ w).alloc (Nat.le_refl _) _).alloc (by simp) _
  have r1 : ((w.alloc (.cells #[.slice none 0 0] 22)).alloc (.cells #[.int .i64 0] 24)).heap[w.heap.size]? = some (.cells #[.slice none 0 0] 22) := alloc_old (heap_alloc_new _ _)
  have r2 : ((w.alloc (.cells #[.slice none 0 0] 22)).alloc (.cells #[.int .i64 0] 24)).heap[w.heap.size + 1]? = some (.cells #[.int .i64 0] 24) := heap_alloc_at _ _ _ (by simp)
  generalize hW0 : World.alloc (World.alloc w _) _ = W0 at *
  clear hW0
  refine ⟨trivial, (callsIn_wide.2 (newSpace_all _ l _ (hr0.below ba) (hT.below ba))).mono ?_⟩
  rintro e w1 ⟨n, c, rfl, hb1⟩
  replace r1 := (hb1.block _ (heap_lt r1)).trans r1
  replace r2 := (hb1.block _ (heap_lt r2)).trans r2
  obtain ⟨hs1, hb2⟩ := lay_sp hb1 n c
  replace r1 := alloc_old (o' := (.cells #[.int .i64 n, .int .u64 (c 0), .int .u64 (c 1), .int .u64 (c 2), .int .u64 (c 3), .int .u64 (c 4), .int .u64 (c 5)] 36)) r1
  replace r2 := alloc_old (o' := (.cells #[.int .i64 n, .int .u64 (c 0), .int .u64 (c 1), .int .u64 (c 2), .int .u64 (c 3), .int .u64 (c 4), .int .u64 (c 5)] 36)) r2
  replace ba := below_to ba ba.size hb2
  have hT2 := hT.below ba
  have hru2 := hru0.below ba
  gi_wp2_with fail
  generalize hW : World.alloc w1 _ = W at *
  generalize hX : w1.heap.size = Bx at *
  clear hW hX hb1 hb2 hr0 hru0
  refine ⟨trivial, (callsIn_wide.2 (newSpace_all _ m _ hru2 hT2)).mono ?_⟩
  rintro e w2 ⟨n2, c2, rfl, hb3⟩
  replace r1 := (hb3.block _ (heap_lt r1)).trans r1
  replace r2 := (hb3.block _ (heap_lt r2)).trans r2
  obtain ⟨hs2, hb4⟩ := lay_sp hb3 n2 c2
  replace r1 := alloc_old (o' := (.cells #[.int .i64 n2, .int .u64 (c2 0), .int .u64 (c2 1), .int .u64 (c2 2), .int .u64 (c2 3), .int .u64 (c2 4), .int .u64 (c2 5)] 36)) r1
  replace r2 := alloc_old (o' := (.cells #[.int .i64 n2, .int .u64 (c2 0), .int .u64 (c2 1), .int .u64 (c2 2), .int .u64 (c2 3), .int .u64 (c2 4), .int .u64 (c2 5)] 36)) r2
  replace ba := below_to ba ba.size hb4
  have hs1' := hs1.below hb4
  have f1 := free_of r1 0
  have f2 := free_of r2 0
  have c1 := cell_of r1 (j := 0) rfl
  have c2 := cell_of r2 (j := 0) rfl
  have R1 := Lib.hid r1
  have R2 := Lib.hid r2
  clear r1 r2 hb3 hb4 hru2 hT2 hs1
  clear hs1' hs2
  rcases h1 : spL l with _ | _
  · skip
    gi_wp2_with fail
    refine leave_marks (B := w.heap.size) [] w.heap.size _ trivial fun w' hs => ?_
    refine ⟨_, results_cells2 (g1 := w.heap.size) (g2 := w.heap.size + 1) rfl rfl rfl (loadVar_cell (by kernel_rfl) (hs.keep _ _ _ _ (set_other (set_same R1.out) (by omega)))) (loadVar_cell (by kernel_rfl) (hs.keep _ _ _ _ (set_same (set_other R2.out (by omega))))), rfl, ?_⟩
    exact ((ba.setCell (p := ⟨w.heap.size, 0, none⟩) (Nat.le_refl _) _).setCell (p := ⟨w.heap.size + 1, 0, none⟩) (by simp) _).trans hs.below
  · rw [h1, Bool.true_and] at h
    rw [h]
    gi_wp2_with fail
    refine leave_marks (B := w.heap.size) [] w.heap.size _ trivial fun w' hs => ?_
    refine ⟨_, results_cells2 (g1 := w.heap.size) (g2 := w.heap.size + 1) rfl rfl rfl (loadVar_cell (by kernel_rfl) (hs.keep _ _ _ _ (set_other (set_same R1.out) (by omega)))) (loadVar_cell (by kernel_rfl) (hs.keep _ _ _ _ (set_same (set_other R2.out (by omega))))), rfl, ?_⟩
    exact ((ba.setCell (p := ⟨w.heap.size, 0, none⟩) (Nat.le_refl _) _).setCell (p := ⟨w.heap.size + 1, 0, none⟩) (by simp) _).trans hs.below

set_option maxRecDepth 100000 in
set_option maxHeartbeats 1600000 in
theorem Same_far (v u : Value) (cs ds : List Nat) (w : World) (hr : Reads w v (ofNats cs)) (hru : Reads w u (ofNats ds)) (hc : Codes cs) (hd : Codes ds) (hsp : spaceB cs = true) (hsq : spaceB ds = true) (hlen : ¬ cs.length = ds.length) (hT : Tab w) :
    Calls Tryd.prog 5 #[v, u] w fun e w' => e = .returned (.tuple #[.slice none 0 0, .int .i64 6]) ∧ Below w.heap.size w w' := by
  have hr0 := hr
  have hru0 := hru
  obtain ⟨a, cap, rfl, _, _, _⟩ := hr.open
  obtain ⟨a2, cap2, rfl, _, _, _⟩ := hru.open
  clear hr hru
  refine (callsIn_wide (n := 20)).1 ?_
  refine callsIn_of_wp_marks Tryd.func5 rfl trivial ?_ rfl
  simp only [Tryd.ntmps5, List.size_toArray, List.length_cons, List.length_nil, Nat.reduceAdd, Nat.reduceSub, Array.replicate_succ, Array.replicate_zero, List.push_toArray, List.append_toArray, List.nil_append, List.cons_append]
  gi_wp2_with fail
  have ba : Below w.heap.size w ((w.alloc (.cells #[.slice none 0 0] 22)).alloc (.cells #[.int .i64 0] 24)) := ((Below.refl _ w).alloc (Nat.le_refl _) _).alloc (by simp) _
  have r1 : ((w.alloc (.cells #[.slice none 0 0] 22)).alloc (.cells #[.int .i64 0] 24)).heap[w.heap.size]? = some (.cells #[.slice none 0 0] 22) := alloc_old (heap_alloc_new _ _)
  have r2 : ((w.alloc (.cells #[.slice none 0 0] 22)).alloc (.cells #[.int .i64 0] 24)).heap[w.heap.size + 1]? = some (.cells #[.int .i64 0] 24) := heap_alloc_at _ _ _ (by simp)
  generalize hW0 : World.alloc (World.alloc w _) _ = W0 at *
  clear hW0
  refine ⟨trivial, (callsIn_wide.2 (newSpace_yes _ cs _ (hr0.below ba) hc hsp (hT.below ba))).mono ?_⟩
  rintro e w1 ⟨rfl, hb1⟩
  replace r1 := (hb1.block _ (heap_lt r1)).trans r1
  replace r2 := (hb1.block _ (heap_lt r2)).trans r2
  obtain ⟨hs1, hb2⟩ := lay_sp hb1 cs.length (cell cs)
  replace r1 := alloc_old (o' := (.cells #[.int .i64 cs.length, .int .u64 ((cell cs) 0), .int .u64 ((cell cs) 1), .int .u64 ((cell cs) 2), .int .u64 ((cell cs) 3), .int .u64 ((cell cs) 4), .int .u64 ((cell cs) 5)] 36)) r1
  replace r2 := alloc_old (o' := (.cells #[.int .i64 cs.length, .int .u64 ((cell cs) 0), .int .u64 ((cell cs) 1), .int .u64 ((cell cs) 2), .int .u64 ((cell cs) 3), .int .u64 ((cell cs) 4), .int .u64 ((cell cs) 5)] 36)) r2
  replace ba := below_to ba ba.size hb2
  have hT2 := hT.below ba
  have hru2 := hru0.below ba
  gi_wp2_with fail
  generalize hW : World.alloc w1 _ = W at *
  generalize hX : w1.heap.size = Bx at *
  clear hW hX hb1 hb2 hr0 hru0
  refine ⟨trivial, (callsIn_wide.2 (newSpace_yes _ ds _ hru2 hd hsq hT2)).mono ?_⟩
  rintro e w2 ⟨rfl, hb3⟩
  replace r1 := (hb3.block _ (heap_lt r1)).trans r1
  replace r2 := (hb3.block _ (heap_lt r2)).trans r2
  obtain ⟨hs2, hb4⟩ := lay_sp hb3 ds.length (cell ds)
  replace r1 := alloc_old (o' := (.cells #[.int .i64 ds.length, .int .u64 ((cell ds) 0), .int .u64 ((cell ds) 1), .int .u64 ((cell ds) 2), .int .u64 ((cell ds) 3), .int .u64 ((cell ds) 4), .int .u64 ((cell ds) 5)] 36)) r1
  replace r2 := alloc_old (o' := (.cells #[.int .i64 ds.length, .int .u64 ((cell ds) 0), .int .u64 ((cell ds) 1), .int .u64 ((cell ds) 2), .int .u64 ((cell ds) 3), .int .u64 ((cell ds) 4), .int .u64 ((cell ds) 5)] 36)) r2
  replace ba := below_to ba ba.size hb4
  have hs1' := hs1.below hb4
  have f1 := free_of r1 0
  have f2 := free_of r2 0
  have c1 := cell_of r1 (j := 0) rfl
  have c2 := cell_of r2 (j := 0) rfl
  have R1 := Lib.hid r1
  have R2 := Lib.hid r2
  clear r1 r2 hb3 hb4 hru2 hT2 hs1
  have d0 := hs1'.n
  have e0 := hs2.n
  have hne : ¬ (cs.length : Int) = (ds.length : Int) := by omega
  gi_wp2_with fail
  refine leave_marks (B := w.heap.size) [] w.heap.size _ trivial fun w' hs => ?_
  refine ⟨_, results_cells2 (g1 := w.heap.size) (g2 := w.heap.size + 1) rfl rfl rfl (loadVar_cell (by kernel_rfl) (hs.keep _ _ _ _ (set_other (set_same R1.out) (by omega)))) (loadVar_cell (by kernel_rfl) (hs.keep _ _ _ _ (set_same (set_other R2.out (by omega))))), rfl, ?_⟩
  exact ((ba.setCell (p := ⟨w.heap.size, 0, none⟩) (Nat.le_refl _) _).setCell (p := ⟨w.heap.size + 1, 0, none⟩) (by simp) _).trans hs.below
end Go.Proofs.YtmagkcioplcidacDoor

/- ply's reference: Codes, IsSpace, Space, Plain. -/
set_option linter.unusedVariables false
set_option linter.unusedSimpArgs false
namespace Go.Proofs.YtmagkcioplcidacDoor
open Go.RowKit Go.Shelf

set_option maxRecDepth 100000 in
set_option maxHeartbeats 1600000 in
theorem refCodes_any (v : Value) (xs : List Int) (w : World) (hr : Reads w v xs) :
    Calls Tryd.prog 15 #[v] w fun e w' => e = .returned (.bool (okB xs)) ∧ Below w.heap.size w w' := by
  have hr0 := hr
  obtain ⟨a, cap, rfl, h1, h2, hcell⟩ := hr.open
  have HR := Lib.hid hr0
  have h3 : xs.length ≤ 9223372036854775807 := by unfold maxLen at h2; omega
  clear h2 hr hr0
  by_cases hl : xs.length ≤ 6
  · obtain ⟨n, hn⟩ : ∃ n, xs.length = n := ⟨_, rfl⟩
    rw [hn] at h1 h3 hcell hl ⊢
    have HN := Lib.hid hn
    clear hn
    have hl' : (n : Int) ≤ 6 := by omega
    obtain ⟨N, hN⟩ : ∃ N, 2 ^ n = N := ⟨_, rfl⟩
    have hsh : ((2 : Int) ^ n) = (N : Int) := by rw [← hN]; push_cast; rfl
    have hN64 : N ≤ 64 := by rw [← hN]; exact Nat.pow_le_pow_right (n := 2) (by omega) hl
    go_enter Tryd.func15, Tryd.ntmps15
    go_wp2_with fail
    go_loopw [3] (fun i wr => ∃ k m : Nat, k ≤ n ∧ i = .int .i64 k ∧ (∀ j, j < k → setB n (gi xs j) = true) ∧ wr = w.drewN m) (fun i _ => n - (intOf i).toNat)
    case atStart => exact ⟨0, 0, by omega, rfl, fun j hj => by omega, rfl⟩
    case round =>
      obtain ⟨k, m, hk, rfl, hd, rfl⟩ := hrel
      have HD := Lib.hid hd
      clear hd
      by_cases hlt : k < n
      · obtain ⟨b, off, rfl, hb, hck⟩ := hcell k hlt
        have k0 : (0 : Int) ≤ (k : Int) := by omega
        have k1 : (k : Int) < (n : Int) := by omega
        clear hcell
        have hset : ∀ x, setB n x = (decide (0 ≤ x) && decide (x < (N : Int))) := fun x => by
          rw [Bool.eq_iff_iff, setB_iff, Bool.and_eq_true, decide_eq_true_eq, decide_eq_true_eq, ← hsh]
        generalize hg : gi xs k = g at *
        have HG := Lib.hid hg
        have HSET := Lib.hid hset
        clear hset hg
        by_cases hx : 0 ≤ g
        · have hx' : decide (g < 0) = false := by simp; omega
          by_cases hy : g < (N : Int)
          · have hy' : decide ((N : Int) ≤ g) = false := by simp; omega
            go_wp2_with fail
            refine wp_region_quiet_lit (by kernel_rfl) (by kernel_rfl) ?_
            repeat (go_big_quiet_step (fail))
            refine wpQuiet_nil ?_
            intro _ hw'
            obtain ⟨nq, hw''⟩ := hw'
            subst hw''
            go_wp2_with fail
            go_roundw
            case rel => exact ⟨k + 1, _, by omega, by go_num, fun j hj => by
              by_cases e : j = k
              · subst e; rw [HG.out, HSET.out, decide_eq_true hx, decide_eq_true hy]; rfl
              · exact HD.out j (by omega), by first | rfl | exact World.drewN_drewN ..⟩
            case measure => simp [intOf]; omega
          · have hy' : decide ((N : Int) ≤ g) = true := by simp; omega
            go_wp2_with fail
            refine wp_region_quiet_lit (by kernel_rfl) (by kernel_rfl) ?_
            repeat (go_big_quiet_step (fail))
            refine wpQuiet_nil ?_
            intro _ hw'
            obtain ⟨nq, hw''⟩ := hw'
            subst hw''
            go_wp2_with fail
            go_ret
            refine ⟨ret_bool ?_, by first | exact below_drewN _ _ | exact (below_drewN _ _).trans ((below_drewN _ _).mono (below_drewN w _).size)⟩
            symm
            rcases ho : okB xs with _ | _
            · rfl
            · unfold okB at ho
              rw [Bool.and_eq_true, HN.out] at ho
              have h9 := codesB_iff.1 ho.2 k (by rw [HN.out]; exact hlt)
              rw [HG.out, HSET.out, Bool.and_eq_true, decide_eq_true_eq, decide_eq_true_eq] at h9
              omega
        · have hx' : decide (g < 0) = true := by simp; omega
          go_wp2_with fail
          refine wp_region_quiet_lit (by kernel_rfl) (by kernel_rfl) ?_
          repeat (go_big_quiet_step (fail))
          refine wpQuiet_nil ?_
          intro _ hw'
          obtain ⟨nq, hw''⟩ := hw'
          subst hw''
          go_wp2_with fail
          go_ret
          refine ⟨ret_bool ?_, by first | exact below_drewN _ _ | exact (below_drewN _ _).trans ((below_drewN _ _).mono (below_drewN w _).size)⟩
          symm
          rcases ho : okB xs with _ | _
          · rfl
          · unfold okB at ho
            rw [Bool.and_eq_true, HN.out] at ho
            have h9 := codesB_iff.1 ho.2 k (by rw [HN.out]; exact hlt)
            rw [HG.out, HSET.out, Bool.and_eq_true, decide_eq_true_eq, decide_eq_true_eq] at h9
            omega
      · have hkn : k = n := by omega
        have HK := Lib.hid hkn
        clear hkn hcell
        have HC : Hid (codesB xs.length xs = true) := Lib.hid (codesB_iff.2 fun j hj => by rw [HN.out]; exact HD.out j (by rw [HK.out]; rw [HN.out] at hj; exact hj))
        by_cases h1n : 1 ≤ n
        · have h1' : (1 : Int) ≤ (n : Int) := by omega
          go_wp2_with fail
          go_ret
          refine ⟨ret_bool ?_, below_drewN _ _⟩
          unfold okB
          rw [HC.out, HN.out]
          simp [h1n, hl]
        · have h1' : ¬ (1 : Int) ≤ (n : Int) := by omega
          go_wp2_with fail
          go_ret
          refine ⟨ret_bool ?_, below_drewN _ _⟩
          unfold okB
          rw [HN.out]
          simp [h1n]
  · have hl' : decide ((xs.length : Int) ≤ 6) = false := by simp; omega
    have h0 : (0 : Int) < (xs.length : Int) := by omega
    have h0n : 0 < xs.length := by omega
    have h10 : decide ((1 : Int) ≤ (xs.length : Int)) = true := by simp; omega
    clear hcell
    go_enter Tryd.func15, Tryd.ntmps15
    go_wp2_with fail
    go_loopw [3] (fun i wr => i = .int .i64 0 ∧ wr = w) (fun i _ => 0)
    case atStart => exact ⟨rfl, rfl⟩
    case round =>
      obtain ⟨rfl, rfl⟩ := hrel
      go_wp2_with fail
      go_ret
      refine ⟨ret_bool ?_, Below.refl _ _⟩
      unfold okB
      simp [hl]

set_option maxRecDepth 100000 in
set_option maxHeartbeats 3200000 in
theorem refIsSpace_any (v : Value) (cs : List Nat) (w : World) (hr : Reads w v (ofNats cs)) (hc : Codes cs) :
    Calls Tryd.prog 16 #[v] w fun e w' => e = .returned (.bool (spaceB cs)) ∧ Below w.heap.size w w' := by
  have hr0 := hr
  obtain ⟨a, cap, rfl, h1, h2, hcell⟩ := hr.open
  have hl6 := hc.2.1
  have HC := Lib.hid (cell_64 hc)
  have hlen := ofNats_len cs
  rw [hlen] at h1 hcell ⊢
  obtain ⟨n, hn⟩ : ∃ n, cs.length = n := ⟨_, rfl⟩
  rw [hn] at h1 hcell hl6 ⊢
  have HN := Lib.hid hn
  clear h2 hr hr0 hc hlen hn
  go_enter Tryd.func16, Tryd.ntmps16
  go_wp2_with fail
  go_loopw [3] (fun i wr => ∃ k m : Nat, k ≤ n ∧ i = .int .i64 k ∧ (∀ p, p < k → (cell cs p).testBit p = true ∧ ∀ q, q < n → (cell cs p).testBit q = true → subB (cell cs q) (cell cs p) = true) ∧ wr = w.drewN m) (fun i _ => n - (intOf i).toNat)
  case atStart => exact ⟨0, 0, by omega, rfl, fun p hp => by omega, rfl⟩
  case round =>
    obtain ⟨k, m, hk, rfl, hdone, rfl⟩ := hrel
    have HD := Lib.hid hdone
    clear hdone
    by_cases hlt : k < n
    · have hcell0 := hcell
      obtain ⟨b, off, rfl, hb, hck⟩ := hcell k hlt
      rw [gi_nats] at hck
      have hc64 := HC.out k
      have k0 : (0 : Int) ≤ (k : Int) := by omega
      have k1 : (k : Int) < (n : Int) := by omega
      have HCELL := Lib.hid hcell
      clear hcell hcell0
      rcases hbit : (cell cs k).testBit k with _ | _
      · have HB := Lib.hid hbit
        clear hbit
        go_wp2_with fail
        refine (refHas_any (cell cs k) k _ hc64 (by omega)).mono ?_
        rintro e w' ⟨rfl, rfl⟩
        rw [HB.out]
        go_wp2_with fail
        go_ret
        refine ⟨ret_bool ?_, below_drewN _ _⟩
        symm
        rcases ho : spaceB cs with _ | _
        · rfl
        · have := (space_iff.1 ho k (by rw [HN.out]; exact hlt)).1
          rw [HB.out] at this; cases this
      · have HB := Lib.hid hbit
        clear hbit
        go_wp2_with fail
        refine (refHas_any (cell cs k) k _ hc64 (by omega)).mono ?_
        rintro e w' ⟨rfl, rfl⟩
        rw [HB.out]
        go_wp2_with fail
        go_loopw [4] (fun i wr => ∃ j m : Nat, j ≤ n ∧ i = .int .i64 j ∧ (∀ q, q < j → (cell cs k).testBit q = true → subB (cell cs q) (cell cs k) = true) ∧ wr = w.drewN m) (fun i _ => n - (intOf i).toNat)
        case atStart => exact ⟨0, _, by omega, rfl, fun p hp => by omega, rfl⟩
        case round =>
          obtain ⟨j, m2, hj, rfl, hd2, rfl⟩ := hrel
          have HD2 := Lib.hid hd2
          clear hd2
          by_cases hjn : j < n
          · obtain ⟨b2, off2, he, hb2, hcj⟩ := HCELL.out j hjn
            cases he
            rw [gi_nats] at hcj
            have hj64 := HC.out j
            have j0 : (0 : Int) ≤ (j : Int) := by omega
            have j1 : (j : Int) < (n : Int) := by omega
            have HA : ∀ b, (cell cs k).testBit j = b → Hid (∀ w, Calls Tryd.prog 29 #[.int .i64 (cell cs k), .int .i64 j] w fun e w' => e = .returned (.bool b) ∧ w = w') := fun b h => Lib.hid (fun w => by have := refHas_any (cell cs k) j w hc64 (by omega); rwa [h] at this)
            have HS : ∀ b, subB (cell cs j) (cell cs k) = b → Hid (∀ w, Calls Tryd.prog 30 #[.int .i64 (cell cs j), .int .i64 (cell cs k)] w fun e w' => e = .returned (.bool b) ∧ w = w') := fun b h => Lib.hid (fun w => by have := refWithin_any (cell cs j) (cell cs k) w hj64 hc64; rwa [h] at this)
            rcases hb1 : (cell cs k).testBit j with _ | _
            · replace HA := HA _ hb1
              have HB1 := Lib.hid hb1
              clear HS hb1
              go_wp2_with fail
              refine wp_region_quiet_lit (by kernel_rfl) (by kernel_rfl) ?_
              repeat (go_big_quiet_step (fail))
              quiet_step ((go_at_call 29; exact (HA.out _).mono (fun e w' h => ⟨h.1, _, h.2.symm⟩)))
              repeat (go_big_quiet_step (fail))
              refine wpQuiet_nil ?_
              intro _ hw'
              obtain ⟨nq, hw''⟩ := hw'
              subst hw''
              go_wp2_with fail
              go_roundw
              case rel => exact ⟨j + 1, _, by omega, by go_num, fun q hq hqb => by
                by_cases e : q = j
                · subst e; rw [HB1.out] at hqb; cases hqb
                · exact HD2.out q (by omega) hqb, by first | rfl | exact World.drewN_drewN ..⟩
              case measure => simp [intOf]; omega
            · replace HA := HA _ hb1
              have HB1 := Lib.hid hb1
              clear hb1
              rcases hs1 : subB (cell cs j) (cell cs k) with _ | _
              · replace HS := HS _ hs1
                have HS1 := Lib.hid hs1
                clear hs1
                go_wp2_with fail
                refine wp_region_quiet_lit (by kernel_rfl) (by kernel_rfl) ?_
                repeat (go_big_quiet_step (fail))
                quiet_step ((go_at_call 29; exact (HA.out _).mono (fun e w' h => ⟨h.1, _, h.2.symm⟩)))
                repeat (go_big_quiet_step (fail))
                quiet_step ((go_at_call 30; exact (HS.out _).mono (fun e w' h => ⟨h.1, _, h.2.symm⟩)))
                repeat (go_big_quiet_step (fail))
                refine wpQuiet_nil ?_
                intro _ hw'
                obtain ⟨nq, hw''⟩ := hw'
                subst hw''
                go_wp2_with fail
                go_ret
                refine ⟨ret_bool ?_, by first | exact below_drewN _ _ | exact (below_drewN _ _).trans ((below_drewN _ _).mono (below_drewN w _).size)⟩
                symm
                rcases ho : spaceB cs with _ | _
                · rfl
                · have := (space_iff.1 ho k (by rw [HN.out]; exact hlt)).2 j (by rw [HN.out]; exact hjn) HB1.out
                  rw [HS1.out] at this; cases this
              · replace HS := HS _ hs1
                have HS1 := Lib.hid hs1
                clear hs1
                go_wp2_with fail
                refine wp_region_quiet_lit (by kernel_rfl) (by kernel_rfl) ?_
                repeat (go_big_quiet_step (fail))
                quiet_step ((go_at_call 29; exact (HA.out _).mono (fun e w' h => ⟨h.1, _, h.2.symm⟩)))
                repeat (go_big_quiet_step (fail))
                quiet_step ((go_at_call 30; exact (HS.out _).mono (fun e w' h => ⟨h.1, _, h.2.symm⟩)))
                repeat (go_big_quiet_step (fail))
                refine wpQuiet_nil ?_
                intro _ hw'
                obtain ⟨nq, hw''⟩ := hw'
                subst hw''
                go_wp2_with fail
                go_roundw
                case rel => exact ⟨j + 1, _, by omega, by go_num, fun q hq hqb => by
                  by_cases e : q = j
                  · subst e; exact HS1.out
                  · exact HD2.out q (by omega) hqb, by first | rfl | exact World.drewN_drewN ..⟩
                case measure => simp [intOf]; omega
          · have hjn2 : j = n := by omega
            have HJ := Lib.hid hjn2
            clear hjn2
            go_wp2_with fail
            go_roundw
            case rel => exact ⟨k + 1, _, by omega, by go_num, fun p hp => by
              by_cases e : p = k
              · subst e; exact ⟨HB.out, fun q hq hqb => HD2.out q (by rw [HJ.out]; exact hq) hqb⟩
              · exact HD.out p (by omega), rfl⟩
            case measure => simp [intOf]; omega
    · have hkn : k = n := by omega
      have HK := Lib.hid hkn
      clear hkn hcell
      go_wp2_with fail
      go_ret
      refine ⟨ret_bool ?_, below_drewN _ _⟩
      symm
      exact space_iff.2 fun p hp => by
        rw [HN.out] at hp
        obtain ⟨h1, h2⟩ := HD.out p (by omega)
        exact ⟨h1, fun q hq hb => h2 q (by rw [← HN.out]; exact hq) hb⟩
set_option maxRecDepth 100000 in
theorem refSpace_any (v : Value) (xs : List Int) (w : World) (hr : Reads w v xs) :
    Calls Tryd.prog 6 #[v] w fun e w' => e = .returned (.bool (spL xs)) ∧ Below w.heap.size w w' := by
  have hr0 := hr
  obtain ⟨a, cap, rfl, _, _, _⟩ := hr.open
  clear hr
  rcases ho : okB xs with _ | _
  · have hsp : spL xs = false := by unfold spL; rw [ho]; rfl
    rw [hsp]
    have HO := Lib.hid ho
    clear ho hsp
    go_enter Tryd.func6, Tryd.ntmps6
    go_wp2_with fail
    refine (refCodes_any _ xs _ hr0).mono ?_
    rintro e w1 ⟨rfl, hb⟩
    rw [HO.out]
    go_wp2_with fail
    go_ret
    exact ⟨rfl, hb⟩
  · obtain ⟨hc, hx⟩ := ok_codes ho
    have hsp : spL xs = spaceB (natsOf xs) := by unfold spL; rw [ho, Bool.true_and]
    rw [hsp]
    have HO := Lib.hid ho
    have HX := Lib.hid hx
    clear ho hsp hx
    go_enter Tryd.func6, Tryd.ntmps6
    go_wp2_with fail
    refine (refCodes_any _ xs _ hr0).mono ?_
    rintro e w1 ⟨rfl, hb⟩
    rw [HO.out]
    have hr1 := hr0.below hb
    go_wp2_with fail
    refine (refIsSpace_any _ (natsOf xs) _ (by rw [← HX.out]; exact hr1) hc).mono ?_
    rintro e w2 ⟨rfl, hb2⟩
    go_wp2_with fail
    go_ret
    exact ⟨rfl, below_to hb hb.size hb2⟩

end Go.Proofs.YtmagkcioplcidacDoor

/- The helper list of the statements: a copy of at most seven numbers. -/
set_option linter.unusedVariables false
set_option linter.unusedSimpArgs false
namespace Go.Proofs.YtmagkcioplcidacDoor
open Go.RowKit

set_option maxRecDepth 100000 in
set_option maxHeartbeats 800000 in
theorem lawList_any (v : Value) (xs : List Int) (w : World) (hr : Reads w v xs) :
    Calls Tryd.prog 4 #[v] w fun e w' => ∃ v', e = .returned v' ∧ Col w w' v' (xs.take 7) := by
  obtain ⟨a, cap, rfl, h1, h2, h3⟩ := hr
  cases a with
  | none =>
    obtain rfl : xs = [] := by
      rcases h3 with h | ⟨b, off, h, _⟩
      · exact h
      · cases h
    go_enter Tryd.func4, Tryd.ntmps4
    go_wp2
    go_ret
    exact ⟨_, rfl, Col.nil w⟩
  | some ad =>
    have hcells : ∀ j u, ((xs.take 7).map (Value.int .i64))[j]? = some u → w.cell? (ad.add j) = some u := by
      intro j u hj
      rcases h3 with rfl | ⟨b', off, he, hS, hc⟩
      · simp at hj
      · cases he
        have hjl : j < (xs.take 7).length := by
          have := (List.getElem?_eq_some_iff.1 hj).1; simpa using this
        have hjl2 : j < xs.length := by simp at hjl; omega
        have hadd : (⟨b', off, none⟩ : Addr).add j = ⟨b', off + j, none⟩ := by unfold Addr.add; split <;> simp_all
        rw [hadd, hc j hjl2, gi_lt hjl2]
        have : ((xs.take 7).map (Value.int .i64))[j]? = some (.int .i64 xs[j]) := by simp at hjl; simp [List.getElem?_take, hjl]
        rw [this] at hj; exact hj
    obtain ⟨i0, hi, hz0, hz1, hz2⟩ := info_parts infoInt
    clear h3
    have hc2 : ∀ u ∈ (xs.take 7).map (Value.int .i64), u.oneCell' = true := by intro u hu; simp only [List.mem_map] at hu; obtain ⟨x, _, rfl⟩ := hu; rfl
    have h2' : cap ≤ 9223372036854775807 := by unfold maxLen at h2; omega
    have h3' : xs.length ≤ 9223372036854775807 := by omega
    have HM := Lib.hid h2
    clear h2
    by_cases hl : xs.length ≤ 7
    · have ht : (xs.take 7).length = xs.length := by simp [hl]
      have HT := Lib.hid ht
      clear ht
      have hl' : (xs.length : Int) ≤ 7 := by omega
      go_enter Tryd.func4, Tryd.ntmps4
      go_wp2_with (at_builtin; refine wpList_append_own _ rfl _ _ 22 rfl w.heap.size 3 i0 (.int .i64 0) 1 8 Tryd.underlying22 hi hz0 hz1 hz2 rfl (by decide) (.slice none 0 0) 0 [] rfl (World.ownsRow_nil _ _ _ _) ad xs.length cap ((xs.take 7).map (Value.int .i64)) rfl (by rw [List.length_map, HT.out]; try omega) hcells hc2 (by simp [maxLen]; omega) (by omega) (by simp) ?_; intro v' w1 hown' hgrow _)
      go_ret
      refine ⟨v', rfl, by rw [HT.out]; simpa only [Nat.zero_add, List.nil_append] using hown', ?_⟩
      exact (Below.refl _ _).grown hgrow (by simp) (fun k e => by simp [Value.ownBlock] at e)
    · have ht : (xs.take 7).length = 7 := by simp; omega
      have HT := Lib.hid ht
      clear ht
      have hl' : (7 : Int) ≤ (xs.length : Int) := by omega
      go_enter Tryd.func4, Tryd.ntmps4
      go_wp2_with (at_builtin; refine wpList_append_own _ rfl _ _ 22 rfl w.heap.size 3 i0 (.int .i64 0) 1 8 Tryd.underlying22 hi hz0 hz1 hz2 rfl (by decide) (.slice none 0 0) 0 [] rfl (World.ownsRow_nil _ _ _ _) ad 7 cap ((xs.take 7).map (Value.int .i64)) rfl (by rw [List.length_map, HT.out]; try omega) hcells hc2 (by simp [maxLen]) (by omega) (by simp) ?_; intro v' w1 hown' hgrow _)
      go_ret
      refine ⟨v', rfl, by rw [HT.out]; simpa only [Nat.zero_add, List.nil_append] using hown', ?_⟩
      exact (Below.refl _ _).grown hgrow (by simp) (fun k e => by simp [Value.ownBlock] at e)
end Go.Proofs.YtmagkcioplcidacDoor

/- Maps that a call makes, by the list of what was put into them. -/
set_option linter.unusedVariables false
set_option linter.unusedSimpArgs false
namespace Go.Proofs.YtmagkcioplcidacDoor
open Go.RowKit

/-- where a key stands in a list of keys, with what the entry holds -/
def findSpec {α : Type} [DecidableEq α] (a : α) : List α → List MapEntry → Nat → Option (Nat × Value)
  | k :: ks, e :: es, i => if a = k then some (i, e.val) else findSpec a ks es (i + 1)
  | _, _, _ => none
theorem findSpec_none {α : Type} [DecidableEq α] {a : α} : ∀ {ks : List α} {es : List MapEntry} {i : Nat}, a ∉ ks → findSpec a ks es i = none
  | [], _, _, _ => rfl
  | _ :: _, [], _, _ => rfl
  | k :: ks, e :: es, i, h => by
    simp only [List.mem_cons, not_or] at h
    rw [findSpec, if_neg h.1]; exact findSpec_none h.2
theorem findSpec_some {α : Type} [DecidableEq α] {a : α} : ∀ {ks : List α} {es : List MapEntry} {i : Nat}, a ∈ ks → es.length = ks.length → ∃ j, findSpec a ks es i = some (i + j, (es.getD j default).val) ∧ ks[j]? = some a
  | [], _, _, h, _ => by simp at h
  | k :: ks, [], _, _, hl => by simp at hl
  | k :: ks, e :: es, i, h, hl => by
    by_cases hk : a = k
    · subst hk; exact ⟨0, by simp [findSpec], rfl⟩
    · have h' : a ∈ ks := by simpa [hk] using h
      obtain ⟨j, h1, h2⟩ := findSpec_some (i := i + 1) h' (by simpa using hl)
      exact ⟨j + 1, by rw [findSpec, if_neg hk, h1]; simp [Nat.add_assoc, Nat.add_comm 1 j], by simpa using h2⟩

/-- how the keys of a map are told -/
structure KeyOK (kt : TypeId) {α : Type} [DecidableEq α] (ek : α → Value) : Prop where
  check : ∀ a em w, (Instr.checkKey em 10000 kt (ek a)).run Tryd.prog w = .ok () w
  find : ∀ a (es : List MapEntry) (ks : List α) w, es.map (·.key) = ks.map ek → (Instr.findKey kt (ek a) es).run Tryd.prog w = .ok (findSpec a ks es 0) w

/-- block b is a map that holds just these keys, with these elements -/
def MapIs {α : Type} (ek : α → Value) (w : World) (b : Nat) (kvs : List (α × Value)) : Prop :=
  ∃ es clock, w.heap[b]? = some (.map es clock) ∧ es.toList.map (·.key) = kvs.map (fun p => ek p.1) ∧ es.toList.map (·.val) = kvs.map (·.2)

theorem MapIs.made {α : Type} (ek : α → Value) (w : World) : MapIs ek (w.alloc (.map #[] 0)) w.heap.size [] := ⟨#[], 0, heap_alloc_new _ _, rfl, rfl⟩
theorem MapIs.of_block {α : Type} {ek : α → Value} {w w' : World} {b : Nat} {kvs : List (α × Value)} (h : MapIs ek w b kvs) (hb : w'.heap[b]? = w.heap[b]?) : MapIs ek w' b kvs := by
  obtain ⟨es, clock, h1, h2⟩ := h
  exact ⟨es, clock, hb.trans h1, h2⟩
theorem MapIs.lt {α : Type} {ek : α → Value} {w : World} {b : Nat} {kvs : List (α × Value)} (h : MapIs ek w b kvs) : b < w.heap.size := by
  obtain ⟨es, clock, h1, h2⟩ := h
  exact (Array.getElem?_eq_some_iff.1 h1).1

section
variable {α : Type} [DecidableEq α] {ek : α → Value} {w : World} {b : Nat} {kvs : List (α × Value)} {t kt et : TypeId}

theorem run_lookup_no (K : KeyOK kt ek) (ht : Tryd.prog.underlying t = some (.map kt et)) {z : Value} (hz : (zeroValue et).run Tryd.prog w = .ok z w) (h : MapIs ek w b kvs) {a : α} (ha : a ∉ kvs.map (·.1)) (ok : Bool) :
    (Instr.lookup t (.map (some b)) (ek a) ok).run Tryd.prog w = .ok (if ok then .tuple #[z, .bool false] else z) w := by
  obtain ⟨es, clock, h1, h2, h3⟩ := h
  have hf := K.find a es.toList (kvs.map (·.1)) w (by rw [h2, List.map_map]; rfl)
  rw [findSpec_none ha] at hf
  simp only [Instr.lookup, getObj, Sem.run_bind, run_underlying ht, Result.andThen_ok, Sem.run, h1, Sem.run_pure, K.check, hf, hz]

theorem find_yes (K : KeyOK kt ek) {es : Array MapEntry} (h2 : es.toList.map (·.key) = kvs.map (fun p => ek p.1)) (h3 : es.toList.map (·.val) = kvs.map (·.2)) {a : α} {v : Value} (hn : (kvs.map (·.1)).Nodup) (ha : (a, v) ∈ kvs) :
    ∃ j, (Instr.findKey kt (ek a) es.toList).run Tryd.prog w = .ok (some (j, v)) w := by
  have hf := K.find a es.toList (kvs.map (·.1)) w (by rw [h2, List.map_map]; rfl)
  have hl : es.toList.length = kvs.length := by have := congrArg List.length h3; simpa using this
  obtain ⟨j, h4, h5⟩ := findSpec_some (i := 0) (es := es.toList) (List.mem_map_of_mem (f := (·.1)) ha) (by simpa using hl)
  suffices hv : (es.toList.getD j default).val = v by rw [h4, hv] at hf; exact ⟨_, hf⟩
  obtain ⟨p, hp, hpa⟩ : ∃ p, kvs[j]? = some p ∧ p.1 = a := by simpa using h5
  obtain ⟨hj, hp'⟩ := List.getElem?_eq_some_iff.1 hp
  obtain ⟨i, hi, hi'⟩ := List.getElem_of_mem ha
  have hij : i = j := by
    refine (List.getElem_inj (xs := kvs.map (·.1)) (h₀ := by simpa using hi) (h₁ := by simpa using hj) hn).1 ?_
    simp [hi', hp', hpa]
  subst hij
  have hpv : p.2 = v := by rw [hi'] at hp'; rw [← hp']
  have : (es.toList.map (·.val))[i]? = some v := by rw [h3]; simp [hp, hpv]
  have hil : i < es.toList.length := by omega
  rw [List.getElem?_map, List.getElem?_eq_getElem hil] at this
  simp only [Option.map_some, Option.some.injEq] at this
  rw [List.getD_eq_getElem?_getD, List.getElem?_eq_getElem hil, Option.getD_some, this]

theorem run_lookup_yes (K : KeyOK kt ek) (ht : Tryd.prog.underlying t = some (.map kt et)) (h : MapIs ek w b kvs) {a : α} {v : Value} (hn : (kvs.map (·.1)).Nodup) (ha : (a, v) ∈ kvs) (ok : Bool) :
    (Instr.lookup t (.map (some b)) (ek a) ok).run Tryd.prog w = .ok (if ok then .tuple #[v, .bool true] else v) w := by
  obtain ⟨es, clock, h1, h2, h3⟩ := h
  obtain ⟨j, hf⟩ := find_yes (w := w) K h2 h3 hn ha
  simp only [Instr.lookup, getObj, Sem.run_bind, run_underlying ht, Result.andThen_ok, Sem.run, h1, Sem.run_pure, K.check, hf]

theorem run_mapUpdate_new (K : KeyOK kt ek) (ht : Tryd.prog.underlying t = some (.map kt et)) (h : MapIs ek w b kvs) {a : α} (ha : a ∉ kvs.map (·.1)) (v : Value) :
    ∃ w', (Instr.mapUpdate t (.map (some b)) (ek a) v).run Tryd.prog w = .ok () w' ∧ MapIs ek w' b (kvs ++ [(a, v)]) ∧ w.grownBy w' (some b) := by
  obtain ⟨es, clock, h1, h2, h3⟩ := h
  have hf := K.find a es.toList (kvs.map (·.1)) w (by rw [h2, List.map_map]; rfl)
  rw [findSpec_none ha] at hf
  have hb := (Array.getElem?_eq_some_iff.1 h1).1
  refine ⟨{ w with heap := w.heap.setIfInBounds b (.map (es.push { key := ek a, val := v, born := clock }) (clock + 1)) }, ?_, ⟨es.push { key := ek a, val := v, born := clock }, clock + 1, ?_, ?_, ?_⟩, ⟨rfl, rfl, rfl, by simp, fun k hk hne => ?_⟩⟩
  · simp only [Instr.mapUpdate, getObj, setObj, Sem.run_bind, run_underlying ht, Result.andThen_ok, Sem.run, h1, Sem.run_pure, K.check, hf]
  · simp [hb]
  · simp [h2]
  · simp [h3]
  · have : ¬ b = k := fun e => hne (by rw [e])
    simp [Array.getElem?_setIfInBounds, this]
end

/-! ### at the operation, for the walk -/
section
variable {α : Type} [DecidableEq α] {ek : α → Value} {w : World} {b : Nat} {kvs : List (α × Value)} {t kt et : TypeId} {ops : Array Oper} {rest : List Oper} {o : Oper} {a : Act} {Q : Exit → Act → World → Prop}

theorem wpList_op {v : Value} (hg : o.guard = none) {s : Sem Value} (he : execOp a.eval o = (do pure (.value (← s)))) {w' : World} (hs : s.run Tryd.prog w = .ok v w') (h : wpList Tryd.prog ops Q rest (a.put o.dst v) w') : wpList Tryd.prog ops Q (o :: rest) a w := by
  refine wpList_plain hg fun K' hK' => ?_
  unfold Oper.wp
  rw [he]
  simp only [Sem.run_bind, hs, Result.andThen_ok, Sem.run_pure]
  exact hK' _ _ h
theorem wpList_opu (hg : o.guard = none) {s : Sem Unit} (he : execOp a.eval o = (do s; pure .skip)) {w' : World} (hs : s.run Tryd.prog w = .ok () w') (h : wpList Tryd.prog ops Q rest (a.put o.dst undef) w') : wpList Tryd.prog ops Q (o :: rest) a w := by
  refine wpList_plain hg fun K' hK' => ?_
  unfold Oper.wp
  rw [he]
  simp only [Sem.run_bind, hs, Result.andThen_ok, Sem.run_pure]
  exact hK' _ _ h

theorem map_lookup_no (hg : o.guard = none) (m x : Operand) (ok : Bool) (hop : o.op = .lookup t m x ok) (K : KeyOK kt ek) (ht : Tryd.prog.underlying t = some (.map kt et)) {z : Value} (hz : (zeroValue et).run Tryd.prog w = .ok z w)
    (hm : a.eval m = .map (some b)) (h : MapIs ek w b kvs) (k : α) (hx : a.eval x = ek k) (hk : k ∉ kvs.map (·.1)) (hK : wpList Tryd.prog ops Q rest (a.put o.dst (if ok then .tuple #[z, .bool false] else z)) w) : wpList Tryd.prog ops Q (o :: rest) a w :=
  wpList_op hg (by simp [execOp, hop, hm, hx]) (run_lookup_no K ht hz h hk ok) hK
theorem map_lookup_yes (hg : o.guard = none) (m x : Operand) (ok : Bool) (hop : o.op = .lookup t m x ok) (K : KeyOK kt ek) (ht : Tryd.prog.underlying t = some (.map kt et))
    (hm : a.eval m = .map (some b)) (h : MapIs ek w b kvs) (k : α) (v : Value) (hx : a.eval x = ek k) (hn : (kvs.map (·.1)).Nodup) (hk : (k, v) ∈ kvs) (hK : wpList Tryd.prog ops Q rest (a.put o.dst (if ok then .tuple #[v, .bool true] else v)) w) : wpList Tryd.prog ops Q (o :: rest) a w :=
  wpList_op hg (by simp [execOp, hop, hm, hx]) (run_lookup_yes K ht h hn hk ok) hK
theorem map_update_new (hg : o.guard = none) (m x y : Operand) (hop : o.op = .mapUpdate t m x y) (K : KeyOK kt ek) (ht : Tryd.prog.underlying t = some (.map kt et))
    (hm : a.eval m = .map (some b)) (h : MapIs ek w b kvs) (k : α) (v : Value) (hx : a.eval x = ek k) (hy : a.eval y = v) (hk : k ∉ kvs.map (·.1))
    (hK : ∀ w', MapIs ek w' b (kvs ++ [(k, v)]) → w.grownBy w' (some b) → wpList Tryd.prog ops Q rest (a.put o.dst undef) w') : wpList Tryd.prog ops Q (o :: rest) a w := by
  obtain ⟨w', h1, h2, h3⟩ := run_mapUpdate_new K ht h hk v
  exact wpList_opu hg (by simp [execOp, hop, hm, hx, hy]) h1 (hK w' h2 h3)

variable {F : Fence} {nF : Nat}
theorem wpListIn_op {v : Value} (hg : o.guard = none) (hd : ∀ c, o.op ≠ .defer c) {s : Sem Value} (ha : o.about Tryd.prog w a.eval = none) (he : execOp a.eval o = (do pure (.value (← s)))) {w' : World} (hs : s.run Tryd.prog w = .ok v w') (h : wpListIn F nF Tryd.prog ops Q rest (a.put o.dst v) w') : wpListIn F nF Tryd.prog ops Q (o :: rest) a w := by
  refine wpListIn_plain hg fun K' hK' => ?_
  unfold Oper.wpIn
  refine ⟨by simp [ha], ?_⟩
  rw [Oper.semAt_plain F _ _ hd, he]
  simp only [Sem.run_bind, hs, Result.andThen_ok, Sem.run_pure]
  exact hK' _ _ h
theorem wpListIn_opu (hg : o.guard = none) (hd : ∀ c, o.op ≠ .defer c) {s : Sem Unit} (ha : o.about Tryd.prog w a.eval = none) (he : execOp a.eval o = (do s; pure .skip)) {w' : World} (hs : s.run Tryd.prog w = .ok () w') (h : wpListIn F nF Tryd.prog ops Q rest (a.put o.dst undef) w') : wpListIn F nF Tryd.prog ops Q (o :: rest) a w := by
  refine wpListIn_plain hg fun K' hK' => ?_
  unfold Oper.wpIn
  refine ⟨by simp [ha], ?_⟩
  rw [Oper.semAt_plain F _ _ hd, he]
  simp only [Sem.run_bind, hs, Result.andThen_ok, Sem.run_pure]
  exact hK' _ _ h

theorem map_lookup_no_in (hg : o.guard = none) (m x : Operand) (ok : Bool) (hop : o.op = .lookup t m x ok) (K : KeyOK kt ek) (ht : Tryd.prog.underlying t = some (.map kt et)) {z : Value} (hz : (zeroValue et).run Tryd.prog w = .ok z w)
    (hm : a.eval m = .map (some b)) (h : MapIs ek w b kvs) (k : α) (hx : a.eval x = ek k) (hk : k ∉ kvs.map (·.1)) (hK : wpListIn F nF Tryd.prog ops Q rest (a.put o.dst (if ok then .tuple #[z, .bool false] else z)) w) : wpListIn F nF Tryd.prog ops Q (o :: rest) a w :=
  wpListIn_op hg (by rw [hop]; intro c h; cases h) (by simp [Oper.about, hop]) (by simp [execOp, hop, hm, hx]) (run_lookup_no K ht hz h hk ok) hK
theorem map_lookup_yes_in (hg : o.guard = none) (m x : Operand) (ok : Bool) (hop : o.op = .lookup t m x ok) (K : KeyOK kt ek) (ht : Tryd.prog.underlying t = some (.map kt et))
    (hm : a.eval m = .map (some b)) (h : MapIs ek w b kvs) (k : α) (v : Value) (hx : a.eval x = ek k) (hn : (kvs.map (·.1)).Nodup) (hk : (k, v) ∈ kvs) (hK : wpListIn F nF Tryd.prog ops Q rest (a.put o.dst (if ok then .tuple #[v, .bool true] else v)) w) : wpListIn F nF Tryd.prog ops Q (o :: rest) a w :=
  wpListIn_op hg (by rw [hop]; intro c h; cases h) (by simp [Oper.about, hop]) (by simp [execOp, hop, hm, hx]) (run_lookup_yes K ht h hn hk ok) hK
theorem map_update_new_in (hg : o.guard = none) (m x y : Operand) (hop : o.op = .mapUpdate t m x y) (K : KeyOK kt ek) (ht : Tryd.prog.underlying t = some (.map kt et))
    (hm : a.eval m = .map (some b)) (h : MapIs ek w b kvs) (k : α) (v : Value) (hx : a.eval x = ek k) (hy : a.eval y = v) (hk : k ∉ kvs.map (·.1))
    (hK : ∀ w', MapIs ek w' b (kvs ++ [(k, v)]) → w.grownBy w' (some b) → wpListIn F nF Tryd.prog ops Q rest (a.put o.dst undef) w') : wpListIn F nF Tryd.prog ops Q (o :: rest) a w := by
  obtain ⟨w', h1, h2, h3⟩ := run_mapUpdate_new K ht h hk v
  exact wpListIn_opu hg (by rw [hop]; intro c h; cases h) (by simp [Oper.about, hop]) (by simp [execOp, hop, hm, hx, hy]) h1 (hK w' h2 h3)
end

section
variable {w : World} {ops : Array Oper} {rest : List Oper} {o : Oper} {a : Act} {Q : Exit → Act → World → Prop} {F : Fence} {nF : Nat}
/-- a whole array or struct is stored into its variable, inside a fence -/
theorem store_row_in (hgd : o.guard = none) (ty : TypeId) (x y : Operand) (ho : o.op = .store ty x y)
    (g : Nat) (cells : Array Value) (hx : a.eval x = .pointer (some ⟨g, 0, none⟩)) (hy : a.eval y = .agg cells)
    (t : TypeId) (old : Array Value) (hg : w.heap[g]? = some (.cells old t (0, 0))) (hi : (Tryd.prog.info? ty).map (·.size) = some cells.size)
    (hold : old.size = cells.size) (h1 : cells.all (·.oneCell') = true)
    (h : wpListIn F nF Tryd.prog ops Q rest (a.put o.dst undef) (w.setRow g cells)) : wpListIn F nF Tryd.prog ops Q (o :: rest) a w :=
  wpListIn_opu hgd (by rw [ho]; intro c h; cases h) (by simp [Oper.about, ho]) (s := Instr.storeAt ty (.pointer (some ⟨g, 0, none⟩)) (.agg cells)) (by simp [execOp, ho, hx, hy])
    (by simp only [Instr.storeAt, Instr.sureAddr, Sem.run_bind, Sem.run_pure, Result.andThen_ok, run_storeVar_row w g t ty old cells hg hi hold h1]) h
end
theorem setRow_old {w : World} {k i : Nat} {cs : Array Value} {o : Option Obj} (h : w.heap[k]? = o) (hne : k ≠ i) : (w.setRow i cs).heap[k]? = o := (setRow_other w i k cs hne).trans h
theorem setRow_same {w : World} {k : Nat} {cs old : Array Value} {t : TypeId} (h : w.heap[k]? = some (.cells old t (0, 0))) : (w.setRow k cs).heap[k]? = some (.cells cs t (0, 0)) := setRow_heap w k old cs t _ h
theorem keeps_setRow {w : World} {k : Nat} {cs old : Array Value} {t : TypeId} (h : w.heap[k]? = some (.cells old t (0, 0))) : KeepsOthers w (w.setRow k cs) :=
  ⟨by simp [World.setRow], fun i o hi ho => (setRow_other w k i cs (by rintro rfl; rw [h] at hi; cases hi; cases ho)).trans hi⟩

theorem run_findAsking {α : Type} [DecidableEq α] {ek : α → Value} {kt : TypeId} (heq : ∀ a b w, (Op.equal kt (ek a) (ek b)).run Tryd.prog w = .ok (decide (a = b)) w) (a : α) :
    ∀ (es : List MapEntry) (ks : List α) (i : Nat) (w : World), es.map (·.key) = ks.map ek → (Instr.findAsking kt (ek a) es i).run Tryd.prog w = .ok (findSpec a ks es i) w
  | [], [], _, _, _ => by simp [Instr.findAsking, findSpec]
  | [], k :: ks, _, _, h => by simp at h
  | e :: es, [], _, _, h => by simp at h
  | e :: es, k :: ks, i, w, h => by
    simp only [List.map_cons, List.cons.injEq] at h
    have ih := run_findAsking heq a es ks (i + 1) w h.2
    simp only [Instr.findAsking, Sem.run_bind, h.1, heq, Result.andThen_ok, findSpec]
    by_cases hk : a = k
    · simp [hk]
    · simp only [hk, decide_false, if_false, Bool.false_eq_true]; exact ih
end Go.Proofs.YtmagkcioplcidacDoor

/- ply: the number of the chains that end at a point. -/
set_option linter.unusedVariables false
set_option linter.unusedSimpArgs false
namespace Go.Proofs.YtmagkcioplcidacDoor
open Go.RowKit Go.Shelf
attribute [local go_sem] Oper.semAt_some

/-! ### plain: a sum over the points of a set -/
theorem sumTo_list (h : Nat → Int) : ∀ n, sumTo h n = ((List.range n).map h).sum
  | 0 => rfl
  | n + 1 => by unfold sumTo; rw [sumTo_list h n, List.range_succ, List.map_append, List.sum_append]; simp
theorem sumTo_far {h : Nat → Int} {n : Nat} : ∀ d, (∀ i, n ≤ i → h i = 0) → sumTo h (n + d) = sumTo h n
  | 0, _ => rfl
  | d + 1, hz => by
    show sumTo h (n + d) + h (n + d) = sumTo h n
    rw [sumTo_far d hz, hz _ (by omega)]; omega
theorem filter_sum (P : Nat → Bool) (h : Nat → Int) : ∀ l : List Nat, ((l.filter P).map h).sum = (l.map fun q => if P q = true then h q else 0).sum
  | [] => rfl
  | a :: l => by
    by_cases hp : P a = true
    · rw [List.filter_cons_of_pos hp]; simp [hp, filter_sum P h l]
    · rw [List.filter_cons_of_neg hp]; simp [hp, filter_sum P h l]
theorem sumTo_bits {S n : Nat} (hn : n ≤ 6) (hS : S < 2 ^ n) (h : Nat → Int) : sumTo (fun q => if S.testBit q = true then h q else 0) n = ((bitsOf S).map h).sum := by
  unfold bitsOf
  rw [filter_sum, ← sumTo_list, show 6 = n + (6 - n) by omega]
  exact (sumTo_far _ (fun i hi => by rw [bit_big hS hi]; simp)).symm

def dnV (cs : List Nat) (p : Nat) : Int := dnF cs 64 p
theorem dnV_step {cs : List Nat} (hs : spaceB cs = true) (hp : plainB cs = true) (hc : Codes cs) {p : Nat} (hpn : p < cs.length) : dnV cs p = 1 - ((bitsOf (diff (cell cs p) (2 ^ p))).map (dnV cs)).sum := by
  have h1 := dn_stable hs hp 64 p hpn (cell_64 hc p)
  unfold dnV
  rw [← h1]
  show 1 - sumTo (fun q => if ltP cs q p = true then dnF cs 64 q else 0) cs.length = _
  congr 1
  rw [← sumTo_bits hc.2.1 (diff_lt (hc.2.2 p))]
  refine sumTo_same _ fun q _ => ?_
  have : ltP cs q p = (diff (cell cs p) (2 ^ p)).testBit q := by
    rw [Bool.eq_iff_iff, without_bit]
    unfold ltP
    rw [Bool.and_eq_true, decide_eq_true_eq]
    exact And.comm
  rw [this]
theorem wrap_sub (a b : Int) : wrap64 (wrap64 a - wrap64 b) = wrap64 (a - b) := by unfold wrap64; omega
theorem wrap_add (a b : Int) : wrap64 (wrap64 a + wrap64 b) = wrap64 (a + b) := by unfold wrap64; omega

/-! ### the walk -/
def intKey (n : Int) : Value := .int .i64 n
theorem findNow_int (q : IntKind) (a : Int) : ∀ (es : List MapEntry) (ks : List Int) (i : Nat), es.map (·.key) = ks.map (Value.int q) → Instr.findNow (.int q) (.int q a) es i = some (findSpec a ks es i)
  | [], [], _, _ => rfl
  | e :: es, k :: ks, i, h => by
    simp only [List.map_cons, List.cons.injEq] at h
    obtain ⟨h1, h2⟩ := h
    have ih := findNow_int q a es ks (i + 1) h2
    by_cases hk : a = k
    · subst hk; simp [Instr.findNow, Instr.sameNow, h1, findSpec]
    · have hk2 : (a == k) = false := by simpa using hk
      simp [Instr.findNow, Instr.sameNow, h1, findSpec, hk, hk2, ih]
  | [], k :: ks, _, h => by simp at h
  | e :: es, [], _, h => by simp at h
theorem key_int : KeyOK 3 intKey where
  check := fun a em w => by kernel_rfl
  find := fun a es ks w h => by
    unfold Instr.findKey
    rw [Sem.run_bind, run_underlying Tryd.underlying3]
    simp only [Result.andThen_ok]
    rw [show Instr.findNow (.int .i64) (intKey a) es 0 = some (findSpec a ks es 0) from findNow_int .i64 a es ks 0 h]
    rfl

/-- all but the map's block is as it was -/
structure KeepM (bm : Nat) (W W' : World) : Prop where
  os : W'.os = W.os
  tape : W'.tape = W.tape
  output : W'.output = W.output
  size : W.heap.size ≤ W'.heap.size
  block : ∀ k, k < W.heap.size → k ≠ bm → W'.heap[k]? = W.heap[k]?
theorem KeepM.refl (bm : Nat) (W : World) : KeepM bm W W := ⟨rfl, rfl, rfl, Nat.le_refl _, fun _ _ _ => rfl⟩
theorem KeepM.trans {bm : Nat} {A B C : World} (h : KeepM bm A B) (k : KeepM bm B C) : KeepM bm A C := ⟨k.os.trans h.os, k.tape.trans h.tape, k.output.trans h.output, Nat.le_trans h.size k.size, fun i hi hne => (k.block i (Nat.lt_of_lt_of_le hi h.size) hne).trans (h.block i hi hne)⟩
theorem KeepM.of_below {bm : Nat} {A B : World} (h : Below A.heap.size A B) : KeepM bm A B := ⟨h.os, h.tape, h.output, h.size, fun k hk _ => h.block k hk⟩
theorem KeepM.of_grown {bm : Nat} {A B : World} (h : A.grownBy B (some bm)) : KeepM bm A B := ⟨h.os, h.tape, h.output, h.size, fun k hk hne => h.block k hk (fun e => hne (Option.some.inj e))⟩
theorem KeepM.below {bm B : Nat} {W W' : World} (h : KeepM bm W W') (hB : B ≤ bm) (hW : B ≤ W.heap.size) : Below B W W' := ⟨h.os, h.tape, h.output, h.size, fun k hk => h.block k (by omega) (by omega)⟩

structure CntW (cs : List Nat) (bm Bk Bx Bf : Nat) (W : World) (kvs : List (Int × Value)) : Prop where
  k : W.heap[Bk]? = some (.cells #[.map (some bm)] 63)
  m : MapIs intKey W bm kvs
  nd : (kvs.map (·.1)).Nodup
  vals : ∀ x ∈ kvs, ∃ q : Nat, q < cs.length ∧ x = ((q : Int), .int .i64 (wrap64 (dnV cs q)))
  x : SpF W Bx cs.length (cell cs)
  f : W.heap[Bf]? = some (.cells #[.func (.func 37) #[] #[.pointer (some ⟨Bk, 0, none⟩), .pointer (some ⟨Bx, 0, none⟩), .pointer (some ⟨Bf, 0, none⟩)]] 64)
  tab : Tab W
theorem CntW.to {cs : List Nat} {bm Bk Bx Bf : Nat} {W W' : World} {kvs : List (Int × Value)} (h : CntW cs bm Bk Bx Bf W kvs) (hc : ∀ (k : Nat) (c : Array Value) (t : TypeId) (fr : Nat × Nat), W.heap[k]? = some (.cells c t fr) → W'.heap[k]? = some (.cells c t fr)) (hm : W'.heap[bm]? = W.heap[bm]?) (hg : W'.heap[1]? = W.heap[1]?) : CntW cs bm Bk Bx Bf W' kvs :=
  ⟨hc _ _ _ _ h.k, h.m.of_block hm, h.nd, h.vals, hc _ _ _ _ h.x, hc _ _ _ _ h.f, h.tab.block hg⟩
theorem CntW.below {cs : List Nat} {bm Bk Bx Bf : Nat} {W W' : World} {kvs : List (Int × Value)} (h : CntW cs bm Bk Bx Bf W kvs) (hb : Below W.heap.size W W') : CntW cs bm Bk Bx Bf W' kvs := h.to (fun k c t fr hk => (hb.block k (heap_lt hk)).trans hk) (hb.block _ h.m.lt) (hb.block _ h.tab.lt)
theorem CntW.ne {cs : List Nat} {bm Bk Bx Bf : Nat} {W : World} {kvs : List (Int × Value)} (h : CntW cs bm Bk Bx Bf W kvs) {k : Nat} {c : Array Value} {t : TypeId} {fr : Nat × Nat} (hk : W.heap[k]? = some (.cells c t fr)) : k ≠ bm := fun e => by
  obtain ⟨es, clock, h1, _⟩ := h.m
  rw [e, h1] at hk; cases hk
theorem CntW.setCell {cs : List Nat} {bm Bk Bx Bf : Nat} {W : World} {kvs : List (Int × Value)} (h : CntW cs bm Bk Bx Bf W kvs) {b : Nat} (h1 : b ≠ bm) (h2 : b ≠ Bk) (h3 : b ≠ Bx) (h4 : b ≠ Bf) (h5 : b ≠ 1) (v : Value) : CntW cs bm Bk Bx Bf (W.setCell ⟨b, 0, none⟩ v) kvs :=
  ⟨set_other h.k (Ne.symm h2), h.m.of_block (heap_setCell_other _ _ _ _ (Ne.symm h1)), h.nd, h.vals, h.x.other (Ne.symm h3), set_other h.f (Ne.symm h4), h.tab.block (heap_setCell_other _ _ _ _ (Ne.symm h5))⟩
/-- one entry more -/
theorem CntW.add {cs : List Nat} {bm Bk Bx Bf : Nat} {W W' : World} {kvs : List (Int × Value)} (h : CntW cs bm Bk Bx Bf W kvs) (hg : W.grownBy W' (some bm)) {p : Nat} (hp : p < cs.length) (hno : (p : Int) ∉ kvs.map (·.1)) (hm : MapIs intKey W' bm (kvs ++ [((p : Int), .int .i64 (wrap64 (dnV cs p)))])) (hng : 1 ≠ bm) :
    CntW cs bm Bk Bx Bf W' (kvs ++ [((p : Int), .int .i64 (wrap64 (dnV cs p)))]) := by
  have old : ∀ {k : Nat} {c : Array Value} {t : TypeId} {fr : Nat × Nat}, W.heap[k]? = some (.cells c t fr) → W'.heap[k]? = some (.cells c t fr) := fun {k c t fr} hk => (hg.block k (heap_lt hk) (fun e => h.ne hk (Option.some.inj e))).trans hk
  refine ⟨old h.k, hm, ?_, fun x hx => ?_, old h.x, old h.f, h.tab.block (hg.block _ h.tab.lt (fun e => hng (Option.some.inj e)))⟩
  · rw [List.map_append, List.nodup_append]
    exact ⟨h.nd, by simp, fun a ha b hb => by simp at hb; subst hb; rintro rfl; exact hno ha⟩
  · rcases List.mem_append.1 hx with hx | hx
    · exact h.vals x hx
    · exact ⟨p, hp, List.mem_singleton.1 hx⟩

/-- what keys have come belong to points of smaller cells -/
def NewKeys (cs : List Nat) (kvs kvs' : List (Int × Value)) (b : Nat) : Prop := ∀ a ∈ kvs'.map (·.1), a ∈ kvs.map (·.1) ∨ ∃ q : Nat, a = (q : Int) ∧ cell cs q < b
theorem NewKeys.refl (cs : List Nat) (kvs : List (Int × Value)) (b : Nat) : NewKeys cs kvs kvs b := fun a h => .inl h
theorem NewKeys.trans {cs : List Nat} {k1 k2 k3 : List (Int × Value)} {b c : Nat} (h : NewKeys cs k1 k2 b) (k : NewKeys cs k2 k3 c) (hcb : c ≤ b) : NewKeys cs k1 k3 b := fun a ha => by
  rcases k a ha with h1 | ⟨q, h1, h2⟩
  · exact h a h1
  · exact .inr ⟨q, h1, by omega⟩
set_option maxRecDepth 100000 in
set_option maxHeartbeats 3200000 in
theorem count_any (cs : List Nat) (hs : spaceB cs = true) (hp : plainB cs = true) (hc : Codes cs) (bm Bk Bx Bf : Nat) (hng : 1 ≠ bm) : ∀ (k p : Nat) (W : World) (kvs : List (Int × Value)), cell cs p < k → p < cs.length → CntW cs bm Bk Bx Bf W kvs →
    Calls Tryd.prog 37 #[.int .i64 p, .pointer (some ⟨Bk, 0, none⟩), .pointer (some ⟨Bx, 0, none⟩), .pointer (some ⟨Bf, 0, none⟩)] W fun e W' => e = .returned (.int .i64 (wrap64 (dnV cs p))) ∧ (∃ kvs', CntW cs bm Bk Bx Bf W' kvs' ∧ NewKeys cs kvs kvs' (cell cs p + 1)) ∧ KeepM bm W W' := by
  intro k
  induction k with
  | zero => intro p W kvs h; omega
  | succ k ih =>
    intro p W kvs hk hpn hcw
    have hn6 := hc.2.1
    have c0 := cell_of hcw.k (j := 0) rfl
    by_cases hin : (p : Int) ∈ kvs.map (·.1)
    · have hv : ((p : Int), Value.int .i64 (wrap64 (dnV cs p))) ∈ kvs := by
        obtain ⟨x, hx, he⟩ := List.mem_map.1 hin
        obtain ⟨q, hq, rfl⟩ := hcw.vals x hx
        have he' : (q : Int) = (p : Int) := he
        have : q = p := by omega
        subst this; exact hx
      have HV := Lib.hid hv
      have HIN := Lib.hid hin
      have HC := Lib.hid hcw
      clear hv hin hcw hs hp ih
      refine (callsIn_wide (n := 20)).1 ?_
      refine callsIn_of_wp_marks Tryd.func37 rfl trivial ?_ rfl
      simp only [Tryd.ntmps37, List.size_toArray, List.length_cons, List.length_nil, Nat.reduceAdd, Nat.reduceSub, Array.replicate_succ, Array.replicate_zero, List.push_toArray, List.append_toArray, List.nil_append, List.cons_append]
      gi_wp2_with (gi_at_lookup; refine map_lookup_yes_in rfl _ _ _ rfl key_int Tryd.underlying63 rfl HC.out.m (p : Int) _ rfl HC.out.nd HV.out ?_)
      refine leave_marks (B := W.heap.size) [] W.heap.size _ trivial fun w' hs => ?_
      refine ⟨_, results_tmp rfl _ _ _, rfl, ⟨kvs, HC.out.below hs.below, NewKeys.refl _ _ _⟩, KeepM.of_below hs.below⟩
    · have HIN := Lib.hid hin
      have hstep := dnV_step hs hp hc hpn
      have hpn6 : p < 6 := by omega
      have h64 := cell_64 hc p
      have hd64 : diff (cell cs p) (2 ^ p) < 64 := diff_lt (k := 6) h64
      have hpts : ∀ x, (diff (cell cs p) (2 ^ p)).testBit x = true → x < cs.length ∧ cell cs x < k := fun x hx => by
        obtain ⟨h1, h2⟩ := (without_bit _ _ _).1 hx
        have hxn := set_lt (hc.2.2 p) h1
        have hl := lt_less hs hp hxn hpn (by unfold ltP; rw [Bool.and_eq_true, decide_eq_true_eq]; exact ⟨h2, h1⟩)
        exact ⟨hxn, by omega⟩
      have hptl : ∀ x, (diff (cell cs p) (2 ^ p)).testBit x = true → cell cs x + 1 ≤ cell cs p := fun x hx => by
        obtain ⟨h1, h2⟩ := (without_bit _ _ _).1 hx
        exact lt_less hs hp (set_lt (hc.2.2 p) h1) hpn (by unfold ltP; rw [Bool.and_eq_true, decide_eq_true_eq]; exact ⟨h2, h1⟩)
      have HPTL := Lib.hid hptl
      have HSTEP := Lib.hid hstep
      have HPTS := Lib.hid hpts
      have HC := Lib.hid hcw
      have hbm : bm < W.heap.size := hcw.m.lt
      have hsh := shl_num p hpn6
      have hpw := pow_lt64 hpn6
      have hz : (zeroValue 3).run Tryd.prog W = .ok (.int .i64 0) W := by kernel_rfl
      have HZ := Lib.hid hz
      have IH := Lib.hid ih
      have hdf : bits .andNot .u64 (cell cs p : Int) ((2 : Int) ^ p) = ((diff (cell cs p) (2 ^ p) : Nat) : Int) := by
        have := u64_andNot (cell cs p) (2 ^ p) (by omega) (by omega)
        rwa [pow_int] at this
      clear hin hcw hs hp ih hstep hpts hptl hc hz
      refine (callsIn_wide (n := 20)).1 ?_
      refine callsIn_of_wp_marks Tryd.func37 rfl trivial ?_ rfl
      simp only [Tryd.ntmps37, List.size_toArray, List.length_cons, List.length_nil, Nat.reduceAdd, Nat.reduceSub, Array.replicate_succ, Array.replicate_zero, List.push_toArray, List.append_toArray, List.nil_append, List.cons_append]
      gi_wp2_with (gi_at_lookup; refine map_lookup_no_in rfl _ _ _ rfl key_int Tryd.underlying63 HZ.out rfl HC.out.m (p : Int) rfl HIN.out ?_)
      have hal : Below W.heap.size W (W.alloc (.cells #[.int .i64 1] 3)) := (Below.refl _ _).alloc (Nat.le_refl _) _
      have s8 := heap_alloc_new W (.cells #[.int .i64 1] 3)
      have hc1 := HC.out.below hal
      have hsz1 : (W.alloc (.cells #[.int .i64 1] 3)).heap.size = W.heap.size + 1 := by simp
      generalize hW1 : World.alloc W _ = W1 at *
      clear hW1
      have q1 := hc1.x.cell (p := p) hpn6
      have p0 : (0 : Int) ≤ (p : Int) := by omega
      have p6 : (p : Int) < 6 := by omega
      have HAL := Lib.hid hal
      have HC1 := Lib.hid hc1
      have HS8 := Lib.hid s8
      clear hal hc1 s8 c0
      refine region_then 7 rfl rfl rfl (by kernel_rfl) (by kernel_rfl) (by kernel_rfl) (by kernel_rfl) (by kernel_rfl) (by kernel_rfl) ?_
      dsimp only [List.dropLast]
      repeat (gi_big_quiet_step (fail))
      refine wpQuietIn_nil ?_
      intro _ hw'
      obtain ⟨nq, hw''⟩ := hw'
      subst hw''
      have hdr := below_drewN W1 nq
      have hc2 := HC1.out.below hdr
      have s8 := (heap_drewN W1 nq _).trans HS8.out
      have hb2 := below_to HAL.out HAL.out.size hdr
      have hsz2 := size_drewN W1 nq
      rw [hsz1] at hsz2
      generalize hW2 : W1.drewN nq = W2 at *
      clear hW2 hdr q1 HAL HC1 HS8 hsz1
      go_simp
      refine ⟨trivial, (callsIn_wide.2 (points_any (diff (cell cs p) (2 ^ p)) _)).mono ?_⟩
      rintro e w2 ⟨rfl, rfl⟩
      have hal : Below W2.heap.size W2 (W2.alloc (.cells #[.int .u64 (diff (cell cs p) (2 ^ p) : Nat)] 33)) := (Below.refl _ _).alloc (Nat.le_refl _) _
      have hBs := heap_alloc_new W2 (.cells #[.int .u64 (diff (cell cs p) (2 ^ p) : Nat)] 33)
      have hc3 := hc2.below hal
      have t8 := (hal.block _ (heap_lt s8)).trans s8
      have hb3 := below_to hb2 hb2.size hal
      have hsz3 : (W2.alloc (.cells #[.int .u64 (diff (cell cs p) (2 ^ p) : Nat)] 33)).heap.size = W.heap.size + 2 := by simp [hsz2]
      rw [hsz2] at hBs ⊢
      generalize hW3 : World.alloc W2 _ = W3 at *
      clear hW3 hal hsz2 hc2 s8 hb2
      gi_wp2_with fail
      have lk := heap_lt HC.out.k
      have lx := HC.out.x.lt
      have lf := heap_lt HC.out.f
      have lt := HC.out.tab.lt
      refine range_pts (gf := 41) (Bs := W.heap.size + 1) (s := diff (cell cs p) (2 ^ p)) rfl (enters_of Tryd.func41 (by kernel_rfl) rfl)
        (points_given (diff (cell cs p) (2 ^ p)) (W.heap.size + 1) hd64 19 (by omega) W3 (by omega)) hBs rfl
        (fun pre V => (∃ kvs', CntW cs bm Bk Bx Bf V kvs' ∧ NewKeys cs kvs kvs' (cell cs p)) ∧ V.heap[W.heap.size]? = some (.cells #[.int .i64 (wrap64 (1 - (pre.map (dnV cs)).sum))] 3) ∧ KeepM bm W V ∧ W.heap.size + 2 ≤ V.heap.size)
        (fun c pre W => False) ?a1 ?hI (fun c s W W' row h _ _ => h) ?hIB (fun pre W h => h.1.elim fun _ h => h.1.tab) ⟨⟨_, hc3, NewKeys.refl _ _ _⟩, by rw [show wrap64 (1 - (([] : List Nat).map (dnV cs)).sum) = 1 by simp [wrap64]]; exact t8, KeepM.of_below hb3, by omega⟩ ?assign ?body ?done ?stop
      case assign =>
        intro l x W K hK
        gi_wp2
        exact hK
      case hI =>
        rintro s V V' row ⟨⟨kvs', h1, hnk⟩, h2, h3, h4⟩ hg hr
        refine ⟨⟨kvs', h1.to (fun k c t fr hk2 => own_cells hg hr hk2) (hg.block _ h1.m.lt (fun e => by have := (hr _ e.symm).1; omega)) (hg.block _ h1.tab.lt (fun e => by have := (hr _ e.symm).1; omega)), hnk⟩, own_block hg hr (by omega) h2, ⟨hg.os.trans h3.os, hg.tape.trans h3.tape, hg.output.trans h3.output, Nat.le_trans h3.size hg.size, fun k hk2 hne => ?_⟩, Nat.le_trans h4 hg.size⟩
        exact (hg.block k (Nat.lt_of_lt_of_le hk2 h3.size) (fun e => by have := (hr _ e.symm).1; omega)).trans (h3.block k hk2 hne)
      case hIB =>
        rintro s V v ⟨⟨kvs', h1, hnk⟩, h2, h3, h4⟩
        refine ⟨⟨kvs', h1.setCell (by omega) (by omega) (by omega) (by omega) (by omega) v, hnk⟩, set_other h2 (by omega), ⟨h3.os, h3.tape, h3.output, by simpa using h3.size, fun k hk2 hne => ?_⟩, by simpa using h4⟩
        exact (heap_setCell_other _ _ _ _ (by show k ≠ W.heap.size + 1; omega)).trans (h3.block k hk2 hne)
      case body =>
        rintro l pre x V hl ⟨⟨kvs', h1, hnk⟩, h2, h3, h4⟩ hpx
        obtain ⟨hxb, hx6⟩ := pre_bit hd64 hpx
        obtain ⟨hxn, hxk⟩ := HPTS.out x hxb
        have HXP : Hid (cell cs x + 1 ≤ cell cs p) := Lib.hid (HPTL.out x hxb)
        have hsum : wrap64 (wrap64 (1 - (pre.map (dnV cs)).sum) - wrap64 (dnV cs x)) = wrap64 (1 - ((pre ++ [x]).map (dnV cs)).sum) := by
          rw [wrap_sub, List.map_append, List.sum_append]
          congr 1
          simp only [List.map_cons, List.map_nil, List.sum_cons, List.sum_nil]
          omega
        have HSUM := Lib.hid hsum
        clear hsum
        gi_wp2_with fail
        refine region_thenC (C := fun V' => (∃ kv, CntW cs bm Bk Bx Bf V' kv ∧ NewKeys cs kvs kv (cell cs p)) ∧ KeepM bm V V') 5 rfl rfl rfl (by kernel_rfl) (by kernel_rfl) (by kernel_rfl) (by kernel_rfl) (by kernel_rfl) (by kernel_rfl) ⟨⟨_, h1.below (Below.refl _ _).drew, hnk⟩, KeepM.of_below (Below.refl _ _).drew⟩ ?_
        dsimp only [List.dropLast]
        have w8 : ∀ V', KeepM bm V V' → V'.heap[W.heap.size]? = some (.cells #[.int .i64 (wrap64 (1 - (pre.map (dnV cs)).sum))] 3) := fun V' hk => (hk.block _ (by omega) (by omega)).trans h2
        refine quiet_value (.int .i64 (wrap64 (1 - (pre.map (dnV cs)).sum))) rfl (fun w => rfl) (fun V' hC => ?_) ?_
        · have c := cell_of (w8 V' hC.2) (j := 0) rfl
          clear w8 hC
          go_simp
        dsimp only [Act.put, List.setIfInBounds_toArray, List.set_cons_zero, List.set_cons_succ]
        refine quiet_value (.func (.func 37) #[] #[.pointer (some ⟨Bk, 0, none⟩), .pointer (some ⟨Bx, 0, none⟩), .pointer (some ⟨Bf, 0, none⟩)]) rfl (fun w => rfl) (fun V' hC => ?_) ?_
        · obtain ⟨kv, hq, hqk⟩ := hC.1
          have c := cell_of hq.f (j := 0) rfl
          clear w8 hC hq
          go_simp
        dsimp only [Act.put, List.setIfInBounds_toArray, List.set_cons_zero, List.set_cons_succ]
        refine quiet_value (.int .i64 x) rfl (fun w => rfl) (fun V' hC => ?_) ?_
        · clear w8 hC
          go_simp
        dsimp only [Act.put, List.setIfInBounds_toArray, List.set_cons_zero, List.set_cons_succ]
        refine quiet_call (.int .i64 (wrap64 (dnV cs x))) 37 #[.int .i64 x, .pointer (some ⟨Bk, 0, none⟩), .pointer (some ⟨Bx, 0, none⟩), .pointer (some ⟨Bf, 0, none⟩)] rfl (fun _ => trivial) (fun h => by simp [Fence.wide, Fence.inRound] at h) (fun V' hC => ?_) (fun V' hC => ?_) ?_
        · clear w8 hC
          go_simp
        · obtain ⟨kv, hq, hqk⟩ := hC.1
          exact (callsIn_wide.2 (IH.out x V' kv hxk hxn hq)).mono fun e V'' h => ⟨h.1, ⟨h.2.1.choose, h.2.1.choose_spec.1, hqk.trans h.2.1.choose_spec.2 (HXP.out)⟩, hC.2.trans h.2.2⟩
        dsimp only [Act.put, List.setIfInBounds_toArray, List.set_cons_zero, List.set_cons_succ]
        refine quiet_value (.int .i64 (wrap64 (wrap64 (1 - (pre.map (dnV cs)).sum) - wrap64 (dnV cs x)))) rfl (fun w => rfl) (fun V' hC => ?_) ?_
        · clear w8 hC
          go_simp
          rw [IntKind.wrap_i64]; unfold wrap64; rfl
        dsimp only [Act.put, List.setIfInBounds_toArray, List.set_cons_zero, List.set_cons_succ]
        refine wpQuietIn_nil fun V' hC => ?_
        have c8 := w8 V' hC.2
        obtain ⟨kv, hq, hqk⟩ := hC.1
        have hkk := hC.2
        have c := cell_of c8 (j := 0) rfl
        have f8 := free_of c8 0
        rw [HSUM.out]
        have C8 := Lib.hid c8
        have HQ := Lib.hid hq
        clear w8 hC hq c8
        go_simp
        have e : wrap64 (1 - ((pre.map (dnV cs)).sum + dnV cs x)) = wrap64 (1 - ((pre ++ [x]).map (dnV cs)).sum) := by simp
        have hlt1 : W.heap.size + 1 < V.heap.size := by omega
        refine ⟨KeepsFrom.trans ⟨hkk.size, fun k o hB hk2 _ => (hkk.block k (heap_lt hk2) (by omega)).trans hk2⟩ (keeps_set _ _ _ _ _), SameAt.setCell (hkk.block _ hlt1 (by omega)) (by omega) _, ⟨kv, HQ.out.setCell (by omega) (by omega) (by omega) (by omega) (by omega) _, hqk⟩, ?_, ?_, ?_⟩
        · rw [← e]; exact set_same C8.out
        · have hk3 := h3.trans hkk
          refine ⟨hk3.os, hk3.tape, hk3.output, by simpa using hk3.size, fun k hk2 hne => ?_⟩
          exact (heap_setCell_other _ _ _ _ (by show k ≠ W.heap.size; omega)).trans (hk3.block k hk2 hne)
        · have := hkk.size
          simp; omega
      case done =>
        rintro D V hD ⟨⟨kvs', h1, hnk⟩, h2, h3, h4⟩ hK
        have hno : (p : Int) ∉ kvs'.map (·.1) := fun h => by
          rcases hnk _ h with h | ⟨q, h, hq⟩
          · exact HIN.out h
          · have : q = p := by omega
            subst this; omega
        rw [← HSTEP.out] at h2
        have c := cell_of h2 (j := 0) rfl
        have ck := cell_of h1.k (j := 0) rfl
        have HNO := Lib.hid hno
        have H1 := Lib.hid h1
        have H3 := Lib.hid h3
        clear h1 h2 h3 hno
        gi_wp2_with (first
          | (gi_at_mapUpdate; refine map_update_new_in rfl _ _ _ rfl key_int Tryd.underlying63 rfl H1.out.m (p : Int) (.int .i64 (wrap64 (dnV cs p))) rfl rfl HNO.out ?_; intro V2 hm2 hg2; have H2 := Lib.hid (H1.out.add hg2 hpn HNO.out hm2 hng); have ck2 := cell_of H2.out.k (j := 0) rfl)
          | (gi_at_lookup; refine map_lookup_yes_in rfl _ _ _ rfl key_int Tryd.underlying63 rfl H2.out.m (p : Int) (.int .i64 (wrap64 (dnV cs p))) rfl H2.out.nd (by simp) ?_))
        have HK2 : V2.heap[D]? = _ := (hg2.block _ (heap_lt hK) (fun e => by have h0 := Option.some.inj e; subst h0; have := HC.out.m.lt; omega)).trans hK
        refine leave_marks (B := W.heap.size) _ (D+1) V2 (Marks.add (U := W.heap.size) (ds := []) trivial (by omega) (by omega) HK2) fun w' hs => ?_
        have hk3 := H3.out.trans (KeepM.of_grown hg2)
        have hsm : KeepM bm W w' := ⟨hs.below.os.trans hk3.os, hs.below.tape.trans hk3.tape, hs.below.output.trans hk3.output, Nat.le_trans hk3.size hs.below.size, fun k hk2 hne => (hs.below.block k hk2).trans (hk3.block k hk2 hne)⟩
        refine ⟨_, results_tmp rfl _ _ _, rfl, ⟨_, H2.out.to hs.keep (hs.below.block _ HC.out.m.lt) (hs.below.block _ HC.out.tab.lt), fun a ha => ?_⟩, hsm⟩
        rw [List.map_append, List.mem_append] at ha
        rcases ha with ha | ha
        · rcases hnk a ha with h | ⟨q, h5, h6⟩
          · exact .inl h
          · exact .inr ⟨q, h5, by omega⟩
        · exact .inr ⟨p, by simpa using ha, by omega⟩
      case stop =>
        rintro D c pre W hD hpre h
        exact h.elim
end Go.Proofs.YtmagkcioplcidacDoor

/- ply: Chains. -/
set_option linter.unusedVariables false
set_option linter.unusedSimpArgs false
namespace Go.Proofs.YtmagkcioplcidacDoor
open Go.RowKit Go.Shelf
attribute [local go_sem] Oper.semAt_some

set_option maxRecDepth 100000 in
set_option maxHeartbeats 1600000 in
theorem Chains_yes (v : Value) (cs : List Nat) (w : World) (hr : Reads w v (ofNats cs)) (hc : Codes cs) (hsp : spaceB cs = true) (hp : plainB cs = true) (hT : Tab w) :
    Calls Tryd.prog 21 #[v] w fun e w' => e = .returned (.tuple #[.int .i64 (wrap64 (sumTo (dnV cs) cs.length)), .int .i64 0]) ∧ Below w.heap.size w w' := by
  have hr0 := hr
  obtain ⟨a, cap, rfl, _, _, _⟩ := hr.open
  clear hr
  have hn6 := hc.2.1
  have hmm := @run_makeMap Tryd.prog
  have HP : Hid (plainB cs = true) := Lib.hid hp
  have HS := Lib.hid hsp
  have HC := Lib.hid hc
  clear hp
  go_enter Tryd.func21, Tryd.ntmps21
  go_wp2_with fail
  refine (newSpace_yes _ cs _ hr0 hc hsp hT).mono ?_
  clear hsp hc
  rintro e w1 ⟨rfl, hb1⟩
  obtain ⟨hs1, hb2⟩ := lay_sp hb1 cs.length (cell cs)
  have hT2 := hT.below hb2
  go_wp2_with fail
  generalize hW : World.alloc w1 _ = W at *
  generalize hX : w1.heap.size = Bx at *
  clear hW hX
  obtain ⟨d0, d1, d2, d3, d4, d5, d6⟩ := hs1.cells
  have HS1 := Lib.hid hs1
  clear hs1
  go_wp2_with fail
  refine (isPlain_any cs _ HC.out).mono ?_
  rintro e w2 ⟨rfl, hb3⟩
  rw [HP.out]
  have hb4 := below_to hb2 hb2.size hb3
  have hT3 := hT2.below hb3
  have hs2 := HS1.out.below hb3
  clear d0 d1 d2 d3 d4 d5 d6 HS1
  have lx := hs2.lt
  have lt := hT3.lt
  have hm0 : MapIs intKey (((w2.alloc (.map #[] 0)).alloc (.cells #[.map (some w2.heap.size)] 63)).alloc (.cells #[(.func (.func 37) #[] #[.pointer (some ⟨w2.heap.size + 1, 0, none⟩), .pointer (some ⟨Bx, 0, none⟩), .pointer (some ⟨w2.heap.size + 1 + 1, 0, none⟩)])] 64)) w2.heap.size [] :=
    ((MapIs.made intKey w2).of_block (heap_alloc_lt _ _ _ (by simp))).of_block (heap_alloc_lt _ _ _ (by simp; omega))
  have hk0 : (((w2.alloc (.map #[] 0)).alloc (.cells #[.map (some w2.heap.size)] 63)).alloc (.cells #[(.func (.func 37) #[] #[.pointer (some ⟨w2.heap.size + 1, 0, none⟩), .pointer (some ⟨Bx, 0, none⟩), .pointer (some ⟨w2.heap.size + 1 + 1, 0, none⟩)])] 64)).heap[w2.heap.size + 1]? = some (.cells #[.map (some w2.heap.size)] 63) := alloc_old (heap_alloc_at _ _ _ (by simp))
  have hf0 : (((w2.alloc (.map #[] 0)).alloc (.cells #[.map (some w2.heap.size)] 63)).alloc (.cells #[(.func (.func 37) #[] #[.pointer (some ⟨w2.heap.size + 1, 0, none⟩), .pointer (some ⟨Bx, 0, none⟩), .pointer (some ⟨w2.heap.size + 1 + 1, 0, none⟩)])] 64)).heap[w2.heap.size + 1 + 1]? = some (.cells #[(.func (.func 37) #[] #[.pointer (some ⟨w2.heap.size + 1, 0, none⟩), .pointer (some ⟨Bx, 0, none⟩), .pointer (some ⟨w2.heap.size + 1 + 1, 0, none⟩)])] 64) := heap_alloc_at _ _ _ (by simp)
  have hb5 : Below w2.heap.size w2 (((w2.alloc (.map #[] 0)).alloc (.cells #[.map (some w2.heap.size)] 63)).alloc (.cells #[(.func (.func 37) #[] #[.pointer (some ⟨w2.heap.size + 1, 0, none⟩), .pointer (some ⟨Bx, 0, none⟩), .pointer (some ⟨w2.heap.size + 1 + 1, 0, none⟩)])] 64)) := (((Below.refl _ _).alloc (Nat.le_refl _) _).alloc (by simp) _).alloc (by simp; omega) _
  have hx0 := hs2.below hb5
  have hn0 := hx0.n
  have HM0 := Lib.hid hm0
  have HK0 := Lib.hid hk0
  have HF0 := Lib.hid hf0
  have HB5 := Lib.hid hb5
  have HX0 := Lib.hid hx0
  clear hm0 hk0 hf0 hb5 hx0 hs2 hmm
  have hmm := @run_makeMap Tryd.prog
  go_wp2_with fail
  generalize hW3 : World.alloc (World.alloc (World.alloc w2 _) _) _ = W3 at *
  have HCW : Hid (CntW cs w2.heap.size (w2.heap.size + 1) Bx (w2.heap.size + 1 + 1) W3 []) := Lib.hid ⟨HK0.out, HM0.out, by simp, by simp, HX0.out, HF0.out, hT3.below HB5.out⟩
  have hcw := HCW.out
  have hb6 := below_to hb4 hb4.size HB5.out
  clear hW3 HM0 HK0 HF0 hn0 hmm
  generalize hbm : w2.heap.size = bm at *
  have hbmw : w.heap.size ≤ bm := by rw [← hbm]; exact hb4.size
  have hbmW : bm < W3.heap.size := hcw.m.lt
  have hsW : w.heap.size ≤ W3.heap.size := hb6.size
  have lt1 := hcw.tab.lt
  have hcnt : ∀ (k : Nat) (V : World) (kvs : List (Int × Value)), k < cs.length → CntW cs bm (bm + 1) Bx (bm + 1 + 1) V kvs → Calls Tryd.prog 37 #[.int .i64 k, .pointer (some ⟨bm + 1, 0, none⟩), .pointer (some ⟨Bx, 0, none⟩), .pointer (some ⟨bm + 1 + 1, 0, none⟩)] V fun e W' => e = .returned (.int .i64 (wrap64 (dnV cs k))) ∧ (∃ kvs', CntW cs bm (bm + 1) Bx (bm + 1 + 1) W' kvs') ∧ KeepM bm V W' := fun k V kvs hk h =>
    (count_any cs HS.out HP.out HC.out bm (bm + 1) Bx (bm + 1 + 1) (by omega) _ k V kvs (Nat.lt_succ_self _) hk h).mono fun e W' hh => ⟨hh.1, ⟨hh.2.1.choose, hh.2.1.choose_spec.1⟩, hh.2.2⟩
  have HCNT := Lib.hid hcnt
  have HB6 := Lib.hid hb6
  clear hcnt HB5 hb6 hcw
  go_loopw [8, 24] (fun s i wr => ∃ k : Nat, k ≤ cs.length ∧ i = .int .i64 k ∧ s = .int .i64 (wrap64 (sumTo (dnV cs) k)) ∧ (∃ kvs, CntW cs bm (bm + 1) Bx (bm + 1 + 1) wr kvs) ∧ KeepM bm W3 wr) (fun _ i _ => cs.length - (intOf i).toNat)
  case atStart => exact ⟨0, by omega, rfl, by rw [show wrap64 (sumTo (dnV cs) 0) = 0 by simp [sumTo, wrap64]], ⟨_, HCW.out⟩, KeepM.refl _ _⟩
  case round =>
    obtain ⟨k, hk, rfl, rfl, ⟨kvs, hcr⟩, hkr⟩ := hrel
    by_cases hlt : k < cs.length
    · have k1 : (k : Int) < (cs.length : Int) := by omega
      have HCR := Lib.hid hcr
      have HKR := Lib.hid hkr
      have cf := cell_of hcr.f (j := 0) rfl
      clear hcr hkr
      go_wp2_with fail
      refine (HCNT.out k _ kvs hlt HCR.out).mono ?_
      rintro e wr2 ⟨rfl, ⟨kv2, h1⟩, h2⟩
      have hadd : wrap64 (wrap64 (sumTo (dnV cs) k) + wrap64 (dnV cs k)) = wrap64 (sumTo (dnV cs) (k + 1)) := by
        rw [show sumTo (dnV cs) (k + 1) = sumTo (dnV cs) k + dnV cs k from rfl]; unfold wrap64; omega
      have HADD := Lib.hid hadd
      clear hadd
      go_wp2_with fail
      go_roundw
      case rel => exact ⟨k + 1, by omega, by go_num, by rw [HADD.out], ⟨_, h1⟩, HKR.out.trans h2⟩
      case measure => simp [intOf]; omega
    · have hkn : k = cs.length := by omega
      subst hkn
      have HKR := Lib.hid hkr
      clear hkr hcr
      go_wp2_with fail
      go_ret2
      exact ⟨rfl, HB6.out.trans (KeepM.below (B := w.heap.size) HKR.out hbmw hsW)⟩

set_option maxRecDepth 100000 in
theorem Chains_alike (v : Value) (cs : List Nat) (w : World) (hr : Reads w v (ofNats cs)) (hc : Codes cs) (hsp : spaceB cs = true) (hp : plainB cs = false) (hT : Tab w) :
    Calls Tryd.prog 21 #[v] w fun e w' => e = .returned (.tuple #[.int .i64 0, .int .i64 6]) ∧ Below w.heap.size w w' := by
  have hr0 := hr
  obtain ⟨a, cap, rfl, _, _, _⟩ := hr.open
  clear hr
  have hn6 := hc.2.1
  have HP := Lib.hid hp
  have HC := Lib.hid hc
  clear hp
  go_enter Tryd.func21, Tryd.ntmps21
  go_wp2_with fail
  refine (newSpace_yes _ cs _ hr0 hc hsp hT).mono ?_
  clear hsp hc
  rintro e w1 ⟨rfl, hb1⟩
  obtain ⟨hs1, hb2⟩ := lay_sp hb1 cs.length (cell cs)
  go_wp2_with fail
  generalize hW : World.alloc w1 _ = W at *
  generalize hX : w1.heap.size = Bx at *
  clear hW hX
  obtain ⟨d0, d1, d2, d3, d4, d5, d6⟩ := hs1.cells
  clear hs1
  go_wp2_with fail
  refine (isPlain_any cs _ HC.out).mono ?_
  rintro e w2 ⟨rfl, hb3⟩
  rw [HP.out]
  have hb4 := below_to hb2 hb2.size hb3
  clear d0 d1 d2 d3 d4 d5 d6
  go_wp2_with fail
  go_ret2
  exact ⟨rfl, hb4⟩
set_option maxRecDepth 100000 in
theorem Chains_no (v : Value) (l : List Int) (w : World) (hr : Reads w v l) (h : spL l = false) (hT : Tab w) :
    Calls Tryd.prog 21 #[v] w fun e w' => e = .returned (.tuple #[.int .i64 0, .int .i64 2]) ∧ Below w.heap.size w w' := by
  have hr0 := hr
  obtain ⟨a, cap, rfl, _, _, _⟩ := hr.open
  clear hr
  go_enter Tryd.func21, Tryd.ntmps21
  go_wp2_with fail
  refine (newSpace_no _ l _ hr0 h hT).mono ?_
  rintro e w1 ⟨n, c, rfl, hb1⟩
  obtain ⟨hs1, hb2⟩ := lay_sp hb1 n c
  go_wp2_with fail
  go_ret2
  exact ⟨rfl, hb2⟩
end Go.Proofs.YtmagkcioplcidacDoor

/- ply: Opens. -/
set_option linter.unusedVariables false
set_option linter.unusedSimpArgs false
namespace Go.Proofs.YtmagkcioplcidacDoor
open Go.RowKit

set_option maxRecDepth 100000 in
set_option maxHeartbeats 1600000 in
theorem Opens_yes (v : Value) (cs : List Nat) (w : World) (hr : Reads w v (ofNats cs)) (hc : Codes cs) (hsp : spaceB cs = true) (hT : Tab w) :
    Calls Tryd.prog 17 #[v] w fun e w' => ∃ v', e = .returned (.tuple #[v', .int .i64 0]) ∧ Col w w' v' (ofNats (opensN cs)) := by
  have hr0 := hr
  obtain ⟨a, cap, rfl, _, _, _⟩ := hr.open
  clear hr
  have hn6 := hc.2.1
  obtain ⟨N, hN⟩ : ∃ N, 2 ^ cs.length = N := ⟨_, rfl⟩
  have hN64 : N ≤ 64 := by rw [← hN]; exact Nat.pow_le_pow_right (n := 2) (by omega) hn6
  have HN : Hid (openTo cs N = opensN cs) := Lib.hid (by rw [← hN]; rfl)
  have hN1 : IntKind.u64.wrap ((allN cs.length : Nat) + 1 : Int) = (N : Int) := by
    have h1 : allN cs.length + 1 = N := by unfold allN; have := Nat.two_pow_pos cs.length; omega
    rw [show ((allN cs.length : Nat) + 1 : Int) = ((allN cs.length + 1 : Nat) : Int) by push_cast; rfl, h1]
    exact wrapU N (by omega)
  have HFIX : Hid (∀ k, k < N → (insideN cs k = k ↔ openB cs k = true)) := Lib.hid (fun k hk => inside_fix (by rw [hN]; exact hk))
  have HLT : Hid (∀ k, k < N → k < 2 ^ cs.length) := Lib.hid (fun k hk => by rw [hN]; exact hk)
  have HC := Lib.hid hc
  clear hN
  go_enter Tryd.func17, Tryd.ntmps17
  go_wp2_with fail
  refine (newSpace_yes _ cs _ hr0 hc hsp hT).mono ?_
  rintro e w1 ⟨rfl, hb1⟩
  obtain ⟨hs1, hb2⟩ := lay_sp hb1 cs.length (cell cs)
  go_wp2_with fail
  generalize hW : World.alloc w1 _ = W at *
  clear hW
  obtain ⟨d0, d1, d2, d3, d4, d5, d6⟩ := hs1.cells
  go_wp2_with fail
  refine (all_any cs _ hn6).mono ?_
  rintro e w2 ⟨rfl, hb3⟩
  have hs2 := hs1.below hb3
  have hb4 := below_to hb2 hb2.size hb3
  have hlt := hs1.lt
  generalize w1.heap.size = B1 at *
  clear hs1 d0 d1 d2 d3 d4 d5 d6 hb1 hb2 hb3 hr0
  go_wp2_with fail
  go_loopw [6, 18] (fun v i wr => ∃ k : Nat, k ≤ N ∧ i = .int .u64 k ∧ Col w wr v (ofNats (openTo cs k)) ∧ SpF wr B1 cs.length (cell cs)) (fun _ i _ => N - (intOf i).toNat)
  case atStart => exact ⟨0, by omega, rfl, ⟨World.ownsRow_nil _ _ _ _, hb4⟩, hs2⟩
  case round =>
    obtain ⟨k, hk, rfl, hcol, hsr⟩ := hrel
    have HCOL := Lib.hid hcol
    have HSR := Lib.hid hsr
    by_cases hlt2 : k < N
    · obtain ⟨d0, d1, d2, d3, d4, d5, d6⟩ := hsr.cells
      have k1 : (k : Int) < (N : Int) := by omega
      have hw1 : IntKind.u64.wrap ((k : Int) + 1) = ((k + 1 : Nat) : Int) := by
        rw [show ((k : Int) + 1) = ((k + 1 : Nat) : Int) by push_cast; rfl]
        exact wrapU (k + 1) (by omega)
      have hwi := wrapI k (by omega)
      have hst := openTo_succ cs k
      have hfx := HFIX.out k hlt2
      have hkn := HLT.out k hlt2
      clear hcol hsr
      rcases hop : openB cs k with _ | _
      · have hne : ¬ insideN cs k = k := fun e => by rw [hfx.1 e] at hop; cases hop
        have hne2 : ((insideN cs k : Int) == (k : Int)) = false := by
          rw [beq_eq_false_iff_ne]; intro e; apply hne; exact_mod_cast e
        rw [hop] at hst
        have HS := Lib.hid hst
        clear hst hop hfx hne
        go_wp2_with fail
        refine (inside_any cs k _ HC.out hkn (hT.below HCOL.out.below)).mono ?_
        rintro e w3 ⟨rfl, hb5⟩
        go_wp2_with fail
        go_roundw
        case rel => exact ⟨k + 1, by omega, by go_num, by rw [HS.out]; simpa using HCOL.out.step hb5, HSR.out.below hb5⟩
        case measure => simp [intOf]; omega
      · have heq : insideN cs k = k := hfx.2 hop
        rw [hop, if_pos rfl] at hst
        have HS := Lib.hid hst
        have HEQ := Lib.hid heq
        have HL : Hid ((ofNats (openTo cs k)).length ≤ 1000000000) := Lib.hid (by have := openTo_len cs k; omega)
        clear hst hop hfx heq
        go_wp2_with fail
        refine (inside_any cs k _ HC.out hkn (hT.below HCOL.out.below)).mono ?_
        rintro e w3 ⟨rfl, hb5⟩
        rw [HEQ.out]
        have HC3 := Lib.hid (HCOL.out.step hb5)
        have HS3 := Lib.hid (HSR.out.below hb5)
        go_wp2_with (at_builtin; refine append_intK rfl _ _ rfl HC3.out rfl _ rfl HL.out ?_; intro v' w' hcol' hne hkeep)
        go_roundw
        case rel => exact ⟨k + 1, by omega, by go_num, by rw [HS.out]; exact hcol', hkeep.sp HS3.out⟩
        case measure => simp [intOf]; omega
    · obtain rfl : k = N := by omega
      have k1 : ¬ (k : Int) < (k : Int) := by omega
      clear hcol hsr
      go_wp2_with fail
      go_ret2
      exact ⟨_, rfl, by rw [← HN.out]; exact HCOL.out⟩
set_option maxRecDepth 100000 in
theorem Opens_no (v : Value) (l : List Int) (w : World) (hr : Reads w v l) (h : spL l = false) (hT : Tab w) :
    Calls Tryd.prog 17 #[v] w fun e w' => e = .returned (.tuple #[.slice none 0 0, .int .i64 2]) ∧ Below w.heap.size w w' := by
  have hr0 := hr
  obtain ⟨a, cap, rfl, _, _, _⟩ := hr.open
  clear hr
  go_enter Tryd.func17, Tryd.ntmps17
  go_wp2_with fail
  refine (newSpace_no _ l _ hr0 h hT).mono ?_
  rintro e w1 ⟨n, c, rfl, hb1⟩
  obtain ⟨hs1, hb2⟩ := lay_sp hb1 n c
  go_wp2_with fail
  go_ret2
  exact ⟨rfl, hb2⟩
end Go.Proofs.YtmagkcioplcidacDoor

/- ply: ints and awake, what every statement looks at. -/
set_option linter.unusedVariables false
set_option linter.unusedSimpArgs false
namespace Go.Proofs.YtmagkcioplcidacDoor
open Go.RowKit

theorem take_eq_succ {xs ys : List Int} {k : Nat} (h1 : k < xs.length) (h2 : k < ys.length) (h : xs.take k = ys.take k) (he : gi xs k = gi ys k) : xs.take (k + 1) = ys.take (k + 1) := by
  rw [List.take_succ_eq_append_getElem h1, List.take_succ_eq_append_getElem h2, h, ← gi_lt h1, ← gi_lt h2, he]

set_option maxRecDepth 100000 in
set_option maxHeartbeats 800000 in
theorem ints_any (v u : Value) (xs ys : List Int) (w : World) (hr : Reads w v xs) (hs : Reads w u ys) :
    Calls Tryd.prog 9 #[v, u] w fun e w' => e = .returned (.bool (decide (xs = ys))) ∧ ∃ n, w' = w.drewN n := by
  obtain ⟨a, cap, rfl, h1, h2, hcell⟩ := hr.open
  obtain ⟨a2, cap2, rfl, h12, h22, hcell2⟩ := hs.open
  have h3 : xs.length ≤ 9223372036854775807 := by unfold maxLen at h2; omega
  clear h2 h22
  by_cases hl : xs.length = ys.length
  · have hl' : ((xs.length : Int) == (ys.length : Int)) = true := by simp [hl]
    have hl2 : (!((xs.length : Int) == (ys.length : Int))) = false := by simp [hl]
    have HL := Lib.hid hl
    clear hl
    go_enter Tryd.func9, Tryd.ntmps9
    go_wp2_with fail
    go_loopw [5] (fun i wr => ∃ k m : Nat, k ≤ xs.length ∧ i = .int .i64 k ∧ xs.take k = ys.take k ∧ wr = w.drewN m) (fun i _ => xs.length - (intOf i).toNat)
    case atStart => exact ⟨0, 0, by omega, rfl, by simp, rfl⟩
    case round =>
      obtain ⟨k, m, hk, rfl, ht, rfl⟩ := hrel
      have HT := Lib.hid ht
      clear ht
      by_cases hlt : k < xs.length
      · obtain ⟨b, off, rfl, hb, hc⟩ := hcell k hlt
        obtain ⟨b2, off2, rfl, hb2, hc2⟩ := hcell2 k (by have := HL.out; omega)
        clear hcell hcell2
        have hk0 : (0 : Int) ≤ (k : Int) := by omega
        have hk1 : (k : Int) < (xs.length : Int) := by omega
        have hk2 : (k : Int) < (ys.length : Int) := by have := HL.out; omega
        go_wp2_with fail
        go_quiet (fail)
        by_cases he : gi xs k = gi ys k
        · have he' : ((gi xs k) == (gi ys k)) = true := by simp [he]
          have HE := Lib.hid he
          clear he
          go_wp2
          go_roundw
          case rel => exact ⟨k + 1, _, by omega, by go_num, take_eq_succ hlt (by have := HL.out; omega) HT.out HE.out, rfl⟩
          case measure => simp [intOf]; omega
        · have he' : ((gi xs k) == (gi ys k)) = false := by simp [he]
          have HE := Lib.hid he
          clear he
          go_wp2
          go_ret
          refine ⟨ret_bool ?_, _, by first | rfl | exact World.drewN_drewN ..⟩
          symm
          rw [decide_eq_false_iff_not]
          rintro rfl; exact HE.out rfl
      · go_wp2_with fail
        go_ret
        refine ⟨ret_bool ?_, _, rfl⟩
        symm
        rw [decide_eq_true_eq]
        have h := HT.out
        have h9 := HL.out
        rwa [List.take_of_length_le (by omega), List.take_of_length_le (by omega)] at h
  · have hl' : ((xs.length : Int) == (ys.length : Int)) = false := by
      rw [beq_eq_false_iff_ne]; intro h; exact hl (by exact_mod_cast h)
    have HL := Lib.hid hl
    clear hl
    go_enter Tryd.func9, Tryd.ntmps9
    go_wp2_with fail
    go_ret
    refine ⟨ret_bool ?_, 0, rfl⟩
    symm
    rw [decide_eq_false_iff_not]
    rintro rfl; exact HL.out rfl

theorem ints_same (v u : Value) (xs : List Int) (w : World) (hr : Reads w v xs) (hs : Reads w u xs) :
    Calls Tryd.prog 9 #[v, u] w fun e w' => e = .returned (.bool true) ∧ ∃ n, w' = w.drewN n :=
  (ints_any v u xs xs w hr hs).mono fun e w' h => ⟨by rw [h.1, decide_eq_true rfl], h.2⟩
/-- a slice of no numbers shows its length -/
theorem reads_nil {w : World} {v : Value} (h : Reads w v []) : ∃ a cap, v = .slice a 0 cap := by
  obtain ⟨a, cap, h1, _⟩ := h
  exact ⟨a, cap, h1⟩

theorem reads_lit {w : World} {b : Nat} {xs : List Int} {cs : Array Value} {t : TypeId} (h : w.heap[b]? = some (.cells cs t)) (hc : cs = (xs.map (Value.int .i64)).toArray) (hl : xs.length ≤ 1000) : Reads w (.slice (some ⟨b, 0, none⟩) xs.length xs.length) xs := by
  subst hc
  refine ⟨_, xs.length, rfl, Nat.le_refl _, by simp [maxLen]; omega, .inr ⟨b, 0, rfl, heap_lt h, fun j hj => ?_⟩⟩
  rw [Nat.zero_add, cell_of_row _ _ _ _ _ _ h, gi_lt hj]
  simp [hj]

theorem codes_dec {cs : List Nat} (h : (decide (1 ≤ cs.length) && decide (cs.length ≤ 6) && cs.all fun x => decide (x < 2 ^ cs.length)) = true) : Codes cs := by
  simp only [Bool.and_eq_true, decide_eq_true_eq, List.all_eq_true] at h
  refine ⟨h.1.1, h.1.2, fun p => ?_⟩
  unfold cell
  by_cases hp : p < cs.length
  · have e : cs.getD p 0 = cs[p] := by simp [List.getD_eq_getElem?_getD, hp]
    rw [e]; exact h.2 _ (List.getElem_mem hp)
  · have e : cs.getD p 0 = 0 := by simp only [List.getD_eq_getElem?_getD]; rw [List.getElem?_eq_none (by omega)]; rfl
    rw [e]; exact Nat.two_pow_pos _
theorem cod13 : Codes [1, 3] := codes_dec (by decide)
theorem cod1 : Codes [1, 2, 7, 11] := codes_dec (by decide)
theorem aw1 : opensN [1, 3] = [0, 1, 3] := by kernel_rfl
theorem aw2 : closureN [1, 3] 1 = 3 := by kernel_rfl
theorem aw3 : bitsOf (coreN [1, 3]) = [1] := by kernel_rfl
theorem aw4 : (smoothsN [1, 3] [1, 3]).length = 3 := by kernel_rfl
theorem aw5 : wrap64 (sumTo (dnV [1, 2, 7, 11]) 4) = 0 := by kernel_rfl

set_option maxRecDepth 100000 in
set_option maxHeartbeats 3200000 in
theorem awake_any (w : World) (hT : Tab w) : Calls Tryd.prog 7 #[] w fun e w' => e = .returned (.bool true) ∧ Below w.heap.size w w' := by
  have r1 : Reads _ _ (ofNats [1, 3]) := reads_lit (xs := [1, 3]) (heap_alloc_new w (.cells #[.int .i64 1, .int .i64 3] 3)) rfl (by simp)
  have b1 := (Below.refl _ w).alloc (Nat.le_refl _) (.cells #[.int .i64 1, .int .i64 3] 3)
  go_enter Tryd.func7, Tryd.ntmps7
  go_wp2_with fail
  refine (Opens_yes _ [1, 3] _ r1 cod13 (by kernel_rfl) (hT.below b1)).mono ?_
  rintro e w1 ⟨v1, rfl, hc1⟩
  rw [aw1] at hc1
  have b2 := below_to b1 b1.size hc1.below
  have ro : Reads w1 v1 [0, 1, 3] := hc1.reads
  clear hc1 r1 b1
  go_wp2_with fail
  have r2 : Reads _ _ (ofNats [1, 3]) := reads_lit (xs := [1, 3]) (heap_alloc_new w1 (.cells #[.int .i64 1, .int .i64 3] 3)) rfl (by simp)
  have b3 := b2.alloc b2.size (.cells #[.int .i64 1, .int .i64 3] 3)
  have ro2 := ro.below ((Below.refl _ _).alloc (Nat.le_refl _) (.cells #[.int .i64 1, .int .i64 3] 3))
  refine (Closure_yes _ [1, 3] 1 _ r2 cod13 (by kernel_rfl) (by decide) (hT.below b3)).mono ?_
  rintro e w2 ⟨rfl, hb⟩
  rw [aw2]
  have b4 := below_to b3 b3.size hb
  have ro3 := ro2.below hb
  clear hb r2 b3 ro2 ro b2
  go_wp2_with fail
  have r3 : Reads _ _ (ofNats [1, 3]) := reads_lit (xs := [1, 3]) (heap_alloc_new w2 (.cells #[.int .i64 1, .int .i64 3] 3)) rfl (by simp)
  have b5 := b4.alloc b4.size (.cells #[.int .i64 1, .int .i64 3] 3)
  have ro4 := ro3.below ((Below.refl _ _).alloc (Nat.le_refl _) (.cells #[.int .i64 1, .int .i64 3] 3))
  refine (Core_yes _ [1, 3] _ r3 cod13 (by kernel_rfl) (hT.below b5)).mono ?_
  rintro e w3 ⟨v3, rfl, hc3⟩
  rw [aw3] at hc3
  have b6 := below_to b5 b5.size hc3.below
  have ro5 := ro4.below hc3.below
  have rc : Reads w3 v3 [1] := hc3.reads
  clear hc3 r3 b4 ro3 b5 ro4
  go_wp2_with fail
  have r4 : Reads _ _ (ofNats [1, 3]) := (reads_lit (xs := [1, 3]) (heap_alloc_new w3 (.cells #[.int .i64 1, .int .i64 3] 3)) rfl (by simp)).below ((Below.refl _ _).alloc (Nat.le_refl _) (.cells #[.int .i64 1, .int .i64 3] 3))
  have r5 : Reads _ _ (ofNats [1, 3]) := reads_lit (xs := [1, 3]) (heap_alloc_at (w3.alloc (.cells #[.int .i64 1, .int .i64 3] 3)) (.cells #[.int .i64 1, .int .i64 3] 3) (w3.heap.size + 1) (by simp)) rfl (by simp)
  have b7 := b6.alloc b6.size (.cells #[.int .i64 1, .int .i64 3] 3)
  have b8 := b7.alloc b7.size (.cells #[.int .i64 1, .int .i64 3] 3)
  have ro6 := (ro5.below ((Below.refl _ _).alloc (Nat.le_refl _) (.cells #[.int .i64 1, .int .i64 3] 3))).below ((Below.refl _ _).alloc (Nat.le_refl _) (.cells #[.int .i64 1, .int .i64 3] 3))
  have rc6 := (rc.below ((Below.refl _ _).alloc (Nat.le_refl _) (.cells #[.int .i64 1, .int .i64 3] 3))).below ((Below.refl _ _).alloc (Nat.le_refl _) (.cells #[.int .i64 1, .int .i64 3] 3))
  refine (Smooth_yes _ _ [1, 3] [1, 3] _ r4 r5 cod13 cod13 (by kernel_rfl) (by kernel_rfl) (hT.below b8)).mono ?_
  rintro e w4 ⟨rfl, hb⟩
  rw [aw4]
  have b9 := below_to b8 b8.size hb
  have ro7 := ro6.below hb
  have rc7 := rc6.below hb
  clear hb r4 r5 b6 b7 b8 ro5 ro6 rc rc6
  go_wp2_with fail
  have r6 : Reads _ _ (ofNats [1, 2, 7, 11]) := reads_lit (xs := [1, 2, 7, 11]) (heap_alloc_new w4 (.cells #[.int .i64 1, .int .i64 2, .int .i64 7, .int .i64 11] 3)) rfl (by simp)
  have b10 := b9.alloc b9.size (.cells #[.int .i64 1, .int .i64 2, .int .i64 7, .int .i64 11] 3)
  have ro8 := ro7.below ((Below.refl _ _).alloc (Nat.le_refl _) (.cells #[.int .i64 1, .int .i64 2, .int .i64 7, .int .i64 11] 3))
  have rc8 := rc7.below ((Below.refl _ _).alloc (Nat.le_refl _) (.cells #[.int .i64 1, .int .i64 2, .int .i64 7, .int .i64 11] 3))
  refine (Chains_yes _ [1, 2, 7, 11] _ r6 cod1 (by kernel_rfl) (by kernel_rfl) (hT.below b10)).mono ?_
  rintro e w5 ⟨rfl, hb⟩
  rw [show ([1, 2, 7, 11] : List Nat).length = 4 from rfl, aw5]
  have b11 := below_to b10 b10.size hb
  have ro9 := ro8.below hb
  have rc9 := rc8.below hb
  clear hb r6 b9 b10 ro7 ro8 rc7 rc8
  go_wp2_with fail
  have r7 := reads_lit (xs := [0, 1, 3]) (heap_alloc_new w5 (.cells #[.int .i64 0, .int .i64 1, .int .i64 3] 3)) rfl (by simp)
  have b12 := b11.alloc b11.size (.cells #[.int .i64 0, .int .i64 1, .int .i64 3] 3)
  have ro10 := ro9.below ((Below.refl _ _).alloc (Nat.le_refl _) (.cells #[.int .i64 0, .int .i64 1, .int .i64 3] 3))
  have rc10 := rc9.below ((Below.refl _ _).alloc (Nat.le_refl _) (.cells #[.int .i64 0, .int .i64 1, .int .i64 3] 3))
  refine (ints_same _ _ [0, 1, 3] _ ro10 r7).mono ?_
  rintro e w6 ⟨rfl, m6, rfl⟩
  have b13 := below_to b12 b12.size (below_drewN _ m6)
  have rc11 := rc10.below (below_drewN _ m6)
  clear r7 b11 b12 ro9 ro10 rc9 rc10
  generalize hW6 : World.drewN _ m6 = W6 at *
  clear hW6
  go_wp2_with fail
  have r8 := reads_lit (xs := [1]) (heap_alloc_new W6 (.cells #[.int .i64 1] 3)) rfl (by simp)
  have b14 := b13.alloc b13.size (.cells #[.int .i64 1] 3)
  have rc12 := rc11.below ((Below.refl _ _).alloc (Nat.le_refl _) (.cells #[.int .i64 1] 3))
  refine (ints_same _ _ [1] _ rc12 r8).mono ?_
  rintro e w7 ⟨rfl, m7, rfl⟩
  have b15 := below_to b14 b14.size (below_drewN _ m7)
  clear r8 b13 b14 rc11 rc12
  generalize hW7 : World.drewN _ m7 = W7 at *
  clear hW7
  go_wp2_with fail
  go_ret
  exact ⟨rfl, b15⟩
end Go.Proofs.YtmagkcioplcidacDoor

/- PlySames. -/
set_option linter.unusedVariables false
set_option linter.unusedSimpArgs false
namespace Go.Proofs.YtmagkcioplcidacDoor
open Go.RowKit

set_option maxRecDepth 100000 in
set_option maxHeartbeats 3200000 in
theorem PlySames_walk (sl : Value) (xs : List Int) (sm : Value) (zs : List Int) (w : World) (hr : Reads w sl xs) (hx : ∀ x ∈ xs, -9223372036854775808 ≤ x ∧ x ≤ 9223372036854775807) (hr2 : Reads w sm zs) (hz : ∀ x ∈ zs, -9223372036854775808 ≤ x ∧ x ≤ 9223372036854775807) (hT : Tab w) :
    Calls Tryd.prog 3 #[sl, sm] w fun e w' => e = .returned (.bool true) ∧ Below w.heap.size w w' := by
  clear hx hz
  rcases hns : spL (xs.take 7) with _ | _
  · have HNS := Lib.hid hns
    have HB : Hid ((spL (xs.take 7) && spL (zs.take 7)) = false) := Lib.hid (by rw [hns]; rfl)
    clear hns
    generalize hys : xs.take 7 = ys at *
    generalize hzs : zs.take 7 = us at *
    go_enter Tryd.func3, Tryd.ntmps3
    have hb := Below.refl w.heap.size w
    go_wp2_with fail
    refine (lawList_any _ xs _ hr).mono ?_
    rintro e w1 ⟨l, rfl, hcol⟩
    rw [hys] at hcol
    replace hr2 := hr2.below hcol.below
    replace hb := below_to hb hb.size hcol.below
    have rl := hcol.reads
    clear hcol
    clear hr hys
    obtain ⟨la, lc, rfl, _, _, _⟩ := rl.open
    go_wp2_with fail
    refine (lawList_any _ zs _ hr2).mono ?_
    rintro e w2 ⟨m, rfl, hcol⟩
    rw [hzs] at hcol
    replace hr2 := hr2.below hcol.below
    replace rl := rl.below hcol.below
    replace hb := below_to hb hb.size hcol.below
    have rm := hcol.reads
    clear hcol
    clear hr2 hzs
    obtain ⟨ma, mc, rfl, _, _, _⟩ := rm.open
    go_wp2_with fail
    refine (Same_no _ _ ys us _ rl rm HB.out (hT.below hb)).mono ?_
    rintro e w3 ⟨rfl, hbn⟩
    replace rl := rl.below hbn
    replace rm := rm.below hbn
    replace hb := below_to hb hb.size hbn
    clear hbn
    go_wp2_with fail
    refine (refSpace_any _ ys _ rl).mono ?_
    rintro e w4 ⟨rfl, hbn⟩
    rw [HNS.out]
    replace rl := rl.below hbn
    replace rm := rm.below hbn
    replace hb := below_to hb hb.size hbn
    clear hbn
    go_wp2_with fail
    refine (awake_any _ (hT.below hb)).mono ?_
    rintro e w5 ⟨rfl, hbn⟩
    replace rl := rl.below hbn
    replace rm := rm.below hbn
    replace hb := below_to hb hb.size hbn
    clear hbn
    go_wp2_with fail
    go_ret
    exact ⟨rfl, hb⟩
  · obtain ⟨hc, hs, hx⟩ := spL_get hns
    rcases hnt : spL (zs.take 7) with _ | _
    · have HNS := Lib.hid hns
      have HNT := Lib.hid hnt
      have HB : Hid ((spL (xs.take 7) && spL (zs.take 7)) = false) := Lib.hid (by rw [hnt, Bool.and_false])
      clear hc hs hx hns hnt
      generalize hys : xs.take 7 = ys at *
      generalize hzs : zs.take 7 = us at *
      go_enter Tryd.func3, Tryd.ntmps3
      have hb := Below.refl w.heap.size w
      go_wp2_with fail
      refine (lawList_any _ xs _ hr).mono ?_
      rintro e w1 ⟨l, rfl, hcol⟩
      rw [hys] at hcol
      replace hr2 := hr2.below hcol.below
      replace hb := below_to hb hb.size hcol.below
      have rl := hcol.reads
      clear hcol
      clear hr hys
      obtain ⟨la, lc, rfl, _, _, _⟩ := rl.open
      go_wp2_with fail
      refine (lawList_any _ zs _ hr2).mono ?_
      rintro e w2 ⟨m, rfl, hcol⟩
      rw [hzs] at hcol
      replace hr2 := hr2.below hcol.below
      replace rl := rl.below hcol.below
      replace hb := below_to hb hb.size hcol.below
      have rm := hcol.reads
      clear hcol
      clear hr2 hzs
      obtain ⟨ma, mc, rfl, _, _, _⟩ := rm.open
      go_wp2_with fail
      refine (Same_no _ _ ys us _ rl rm HB.out (hT.below hb)).mono ?_
      rintro e w3 ⟨rfl, hbn⟩
      replace rl := rl.below hbn
      replace rm := rm.below hbn
      replace hb := below_to hb hb.size hbn
      clear hbn
      go_wp2_with fail
      refine (refSpace_any _ ys _ rl).mono ?_
      rintro e w4 ⟨rfl, hbn⟩
      rw [HNS.out]
      replace rl := rl.below hbn
      replace rm := rm.below hbn
      replace hb := below_to hb hb.size hbn
      clear hbn
      go_wp2_with fail
      refine (refSpace_any _ us _ rm).mono ?_
      rintro e w5 ⟨rfl, hbn⟩
      rw [HNT.out]
      replace rl := rl.below hbn
      replace rm := rm.below hbn
      replace hb := below_to hb hb.size hbn
      clear hbn
      go_wp2_with fail
      refine (awake_any _ (hT.below hb)).mono ?_
      rintro e w6 ⟨rfl, hbn⟩
      replace rl := rl.below hbn
      replace rm := rm.below hbn
      replace hb := below_to hb hb.size hbn
      clear hbn
      go_wp2_with fail
      go_ret
      exact ⟨rfl, hb⟩
    · obtain ⟨hd, hu, hy⟩ := spL_get hnt
      have HNS := Lib.hid hns
      have HNT := Lib.hid hnt
      have HC := Lib.hid hc
      have HS := Lib.hid hs
      have HX := Lib.hid hx
      have HD := Lib.hid hd
      have HU := Lib.hid hu
      have HY := Lib.hid hy
      clear hc hs hx hns hd hu hy hnt
      generalize natsOf (xs.take 7) = cs at *
      generalize natsOf (zs.take 7) = ds at *
      generalize hys : xs.take 7 = ys at *
      generalize hzs : zs.take 7 = us at *
      by_cases hlen : ds.length = cs.length
      · have HLEN := Lib.hid hlen
        clear hlen
        go_enter Tryd.func3, Tryd.ntmps3
        have hb := Below.refl w.heap.size w
        go_wp2_with fail
        refine (lawList_any _ xs _ hr).mono ?_
        rintro e w1 ⟨l, rfl, hcol⟩
        rw [hys] at hcol
        replace hr2 := hr2.below hcol.below
        replace hb := below_to hb hb.size hcol.below
        have rl := hcol.reads
        clear hcol
        clear hr hys
        obtain ⟨la, lc, rfl, _, _, _⟩ := rl.open
        go_wp2_with fail
        refine (lawList_any _ zs _ hr2).mono ?_
        rintro e w2 ⟨m, rfl, hcol⟩
        rw [hzs] at hcol
        replace hr2 := hr2.below hcol.below
        replace rl := rl.below hcol.below
        replace hb := below_to hb hb.size hcol.below
        have rm := hcol.reads
        clear hcol
        clear hr2 hzs
        obtain ⟨ma, mc, rfl, _, _, _⟩ := rm.open
        go_wp2_with fail
        have hrc : Reads w2 (.slice la ys.length lc) (ofNats cs) := by rw [← HX.out]; exact rl
        have hrd : Reads w2 (.slice ma us.length mc) (ofNats ds) := by rw [← HY.out]; exact rm
        refine (Same_any _ _ cs ds _ hrc hrd HC.out HD.out HS.out HU.out HLEN.out (hT.below hb)).mono ?_
        rintro e w3 (⟨hnone, rfl, hbn⟩ | ⟨f, fv, hsome, rfl, hcol⟩)
        · have HO : Hid ((if ds.length = cs.length then firstSame cs ds else none) = none) := Lib.hid (by rw [if_pos HLEN.out, hnone])
          clear hnone
          replace rl := rl.below hbn
          replace rm := rm.below hbn
          replace hrc := hrc.below hbn
          replace hrd := hrd.below hbn
          replace hb := below_to hb hb.size hbn
          clear hbn
          go_wp2_with fail
          refine (refSpace_any _ ys _ rl).mono ?_
          rintro e w4 ⟨rfl, hbn⟩
          rw [HNS.out]
          replace rl := rl.below hbn
          replace rm := rm.below hbn
          replace hrc := hrc.below hbn
          replace hrd := hrd.below hbn
          replace hb := below_to hb hb.size hbn
          clear hbn
          go_wp2_with fail
          refine (refSpace_any _ us _ rm).mono ?_
          rintro e w5 ⟨rfl, hbn⟩
          rw [HNT.out]
          replace rl := rl.below hbn
          replace rm := rm.below hbn
          replace hrc := hrc.below hbn
          replace hrd := hrd.below hbn
          replace hb := below_to hb hb.size hbn
          clear hbn
          go_wp2_with fail
          refine (refSame_any _ _ cs ds _ hrc hrd HC.out HD.out).mono ?_
          rintro e w9 ⟨⟨gv, gb, rfl, hgb, hgr⟩, hbn⟩
          rw [HO.out] at hgb hgr
          replace rl := rl.below hbn
          replace rm := rm.below hbn
          replace hrc := hrc.below hbn
          replace hrd := hrd.below hbn
          replace hb := below_to hb hb.size hbn
          clear hbn
          obtain rfl : gb = false := hgb
          clear hgr
          go_wp2_with fail
          refine (awake_any _ (hT.below hb)).mono ?_
          rintro e w6 ⟨rfl, hbn⟩
          replace rl := rl.below hbn
          replace rm := rm.below hbn
          replace hrc := hrc.below hbn
          replace hrd := hrd.below hbn
          replace hb := below_to hb hb.size hbn
          clear hbn
          go_wp2_with fail
          go_ret
          exact ⟨rfl, hb⟩
        · have HO : Hid ((if ds.length = cs.length then firstSame cs ds else none) = some f) := Lib.hid (by rw [if_pos HLEN.out, hsome])
          clear hsome
          replace rl := rl.below hcol.below
          replace rm := rm.below hcol.below
          replace hrc := hrc.below hcol.below
          replace hrd := hrd.below hcol.below
          replace hb := below_to hb hb.size hcol.below
          have rf := hcol.reads
          clear hcol
          obtain ⟨fa, fc, rfl, _, _, _⟩ := rf.open
          go_wp2_with fail
          refine (refSpace_any _ ys _ rl).mono ?_
          rintro e w4 ⟨rfl, hbn⟩
          rw [HNS.out]
          replace rl := rl.below hbn
          replace rm := rm.below hbn
          replace hrc := hrc.below hbn
          replace hrd := hrd.below hbn
          replace rf := rf.below hbn
          replace hb := below_to hb hb.size hbn
          clear hbn
          go_wp2_with fail
          refine (refSpace_any _ us _ rm).mono ?_
          rintro e w5 ⟨rfl, hbn⟩
          rw [HNT.out]
          replace rl := rl.below hbn
          replace rm := rm.below hbn
          replace hrc := hrc.below hbn
          replace hrd := hrd.below hbn
          replace rf := rf.below hbn
          replace hb := below_to hb hb.size hbn
          clear hbn
          go_wp2_with fail
          refine (refSame_any _ _ cs ds _ hrc hrd HC.out HD.out).mono ?_
          rintro e w9 ⟨⟨gv, gb, rfl, hgb, hgr⟩, hbn⟩
          rw [HO.out] at hgb hgr
          replace rl := rl.below hbn
          replace rm := rm.below hbn
          replace hrc := hrc.below hbn
          replace hrd := hrd.below hbn
          replace rf := rf.below hbn
          replace hb := below_to hb hb.size hbn
          clear hbn
          obtain rfl : gb = true := hgb
          have rg := hgr f rfl
          clear hgr
          obtain ⟨ga, gc, rfl, _, _, _⟩ := rg.open
          go_wp2_with fail
          refine (ints_same _ _ _ _ rf rg).mono ?_
          rintro e w6 ⟨rfl, m6, rfl⟩
          replace rl := rl.below (below_drewN _ m6)
          replace rm := rm.below (below_drewN _ m6)
          replace hrc := hrc.below (below_drewN _ m6)
          replace hrd := hrd.below (below_drewN _ m6)
          replace rf := rf.below (below_drewN _ m6)
          replace rg := rg.below (below_drewN _ m6)
          replace hb := below_to hb hb.size (below_drewN _ m6)
          generalize hW6 : World.drewN _ m6 = W6 at *
          skip
          clear hW6
          go_wp2_with fail
          refine (awake_any _ (hT.below hb)).mono ?_
          rintro e w7 ⟨rfl, hbn⟩
          replace rl := rl.below hbn
          replace rm := rm.below hbn
          replace hrc := hrc.below hbn
          replace hrd := hrd.below hbn
          replace rf := rf.below hbn
          replace rg := rg.below hbn
          replace hb := below_to hb hb.size hbn
          clear hbn
          go_wp2_with fail
          go_ret
          exact ⟨rfl, hb⟩
      · have HLEN : Hid (¬ cs.length = ds.length) := Lib.hid (fun e => hlen e.symm)
        clear hlen
        go_enter Tryd.func3, Tryd.ntmps3
        have hb := Below.refl w.heap.size w
        go_wp2_with fail
        refine (lawList_any _ xs _ hr).mono ?_
        rintro e w1 ⟨l, rfl, hcol⟩
        rw [hys] at hcol
        replace hr2 := hr2.below hcol.below
        replace hb := below_to hb hb.size hcol.below
        have rl := hcol.reads
        clear hcol
        clear hr hys
        obtain ⟨la, lc, rfl, _, _, _⟩ := rl.open
        go_wp2_with fail
        refine (lawList_any _ zs _ hr2).mono ?_
        rintro e w2 ⟨m, rfl, hcol⟩
        rw [hzs] at hcol
        replace hr2 := hr2.below hcol.below
        replace rl := rl.below hcol.below
        replace hb := below_to hb hb.size hcol.below
        have rm := hcol.reads
        clear hcol
        clear hr2 hzs
        obtain ⟨ma, mc, rfl, _, _, _⟩ := rm.open
        go_wp2_with fail
        have hrc : Reads w2 (.slice la ys.length lc) (ofNats cs) := by rw [← HX.out]; exact rl
        have hrd : Reads w2 (.slice ma us.length mc) (ofNats ds) := by rw [← HY.out]; exact rm
        refine (Same_far _ _ cs ds _ hrc hrd HC.out HD.out HS.out HU.out HLEN.out (hT.below hb)).mono ?_
        rintro e w3 ⟨rfl, hbn⟩
        replace rl := rl.below hbn
        replace rm := rm.below hbn
        replace hrc := hrc.below hbn
        replace hrd := hrd.below hbn
        replace hb := below_to hb hb.size hbn
        clear hbn
        go_wp2_with fail
        refine (refSpace_any _ ys _ rl).mono ?_
        rintro e w4 ⟨rfl, hbn⟩
        rw [HNS.out]
        replace rl := rl.below hbn
        replace rm := rm.below hbn
        replace hrc := hrc.below hbn
        replace hrd := hrd.below hbn
        replace hb := below_to hb hb.size hbn
        clear hbn
        go_wp2_with fail
        refine (refSpace_any _ us _ rm).mono ?_
        rintro e w5 ⟨rfl, hbn⟩
        rw [HNT.out]
        replace rl := rl.below hbn
        replace rm := rm.below hbn
        replace hrc := hrc.below hbn
        replace hrd := hrd.below hbn
        replace hb := below_to hb hb.size hbn
        clear hbn
        go_wp2_with fail
        have HO : Hid ((if ds.length = cs.length then firstSame cs ds else none) = none) := Lib.hid (if_neg (fun e => HLEN.out e.symm))
        refine (refSame_any _ _ cs ds _ hrc hrd HC.out HD.out).mono ?_
        rintro e w9 ⟨⟨gv, gb, rfl, hgb, hgr⟩, hbn⟩
        rw [HO.out] at hgb hgr
        replace rl := rl.below hbn
        replace rm := rm.below hbn
        replace hrc := hrc.below hbn
        replace hrd := hrd.below hbn
        replace hb := below_to hb hb.size hbn
        clear hbn
        obtain rfl : gb = false := hgb
        clear hgr
        go_wp2_with fail
        refine (awake_any _ (hT.below hb)).mono ?_
        rintro e w6 ⟨rfl, hbn⟩
        replace rl := rl.below hbn
        replace rm := rm.below hbn
        replace hrc := hrc.below hbn
        replace hrd := hrd.below hbn
        replace hb := below_to hb hb.size hbn
        clear hbn
        go_wp2_with fail
        go_ret
        exact ⟨rfl, hb⟩
end Go.Proofs.YtmagkcioplcidacDoor
