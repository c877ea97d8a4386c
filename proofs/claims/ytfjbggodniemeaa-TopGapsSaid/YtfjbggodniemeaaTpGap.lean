/- gauge: Gaps. -/
import Derived.Test.YtfjbggodniemeaaTpRs
import Derived.Test.YtfjbggodniemeaaMarks
set_option linter.unusedVariables false
set_option linter.unusedSimpArgs false
namespace Go.Proofs.Ytfjbggodniemeaa
open Go.RowKit
attribute [local go_sem] Oper.semAt_some

section
variable {α : Type} {n : Nat} {P : Program}
/-- a range statement over such an iterator, where the variable is in a box -/
theorem range_imgs_box {g : Operand} {ps : Array Tmp} {assign body : Code} {Q : Exit → Act → World → Prop} {a : Act} {w : World}
    {gf : Nat} {lb : Array Value} (hg : a.eval g = .func (.func gf) #[] lb) (eg : ∀ args w, (callFunc gf args).run P w = .ok (.enter gf args) w)
    {encs : α → Array Value} {Kp : World → World → Prop} {S Sp : List α → Prop} {Px : List α → α → Prop} (hseq : GivenB (n - 1) P gf lb encs Kp S Sp (fun pre x _ => Px pre x) w)
    (hKt : ∀ {A B C : World}, Kp A B → Kp B C → Kp A C) (hKb : ∀ (W : World) (o' : Obj), Kp W (W.putObj (w.heap.size + 1) o')) (hKa : ∀ (W : World) (o : Obj), Kp W (W.alloc o)) (hps : ∀ x, (encs x).size = ps.size)
    (I : List α → World → Prop) (Ix : Code → List α → World → Prop) (ob : α → Obj) (hob : ∀ x, (ob x).isCells = true) (a₁ : α → Nat → Act) (hI : OwnFrom w.heap.size I) (hIx : ∀ c, OwnFrom w.heap.size (Ix c))
    (hIB : ∀ pre V b j v, w.heap.size ≤ b → I pre V → I pre (V.setCell ⟨b, j, none⟩ v)) (hIs : ∀ pre V, I pre V → w.heap.size ≤ V.heap.size) (h0 : I [] w)
    (hassign : ∀ (l : Nat) (x : α) (W : World) (b : Nat) (K : Act → World → Prop), b = W.heap.size → K (a₁ x b) (W.alloc (ob x)) →
      assign.wpIn (Fence.wide.inRound l) (n - 1 - 1) P (Exit.then K (fun _ _ _ => False)) { tmps := (ps.zip (encs x)).foldl (fun t (p, v) => t.setIfInBounds p v) a.tmps, defers := [] } W)
    (hbody : ∀ (l : Nat) (pre : List α) (x : α) (b : Nat) (W : World), w.heap.size ≤ l → w.heap.size ≤ b → I pre W → W.heap[b]? = some (ob x) → Px pre x → body.wpIn (Fence.wide.inRound l) (n - 1 - 1) P (roundPostK w.heap.size Kp I Ix (pre ++ [x]) W) (a₁ x b) W)
    (hdone : ∀ (D : Nat) (xs : List α) (W : World), w.heap.size ≤ D → S xs → I xs W → W.heap[D]? = some (.deferred (some [])) → Q .normal { a with defers := { target := .collected D, args := #[] } :: a.defers } W)
    (hstop : ∀ (D : Nat) (c : Code) (pre : List α) (W : World), w.heap.size ≤ D → Sp pre → Ix c pre W → W.heap[D]? = some (.deferred (some [])) → c.wpIn Fence.wide n P Q { a with defers := { target := .collected D, args := #[] } :: a.defers } W) :
    (Code.rangeFunc g ps assign body).wpIn Fence.wide n P Q a w :=
  range_bears hg eg hseq hKt hKb hps I Ix hI hIx hIB h0 (fun pre x a' W => ∃ b, w.heap.size ≤ b ∧ a' = a₁ x b ∧ W.heap[b]? = some (ob x) ∧ Px pre x)
    (fun pre x a' s W W' row h hg hr => by
      obtain ⟨b, h1, h2, h3, h4⟩ := h
      refine ⟨b, h1, h2, ?_, h4⟩
      have h5 := hob x
      rcases ho : ob x with ⟨cs, t, fr⟩ | _ | _ | _ | _ | _ | _ | _ | _ | _ <;> rw [ho] at h3 h5 <;> first | exact own_cells hg hr h3 | exact absurd h5 (by simp [Obj.isCells]))
    (fun l pre x W K hi hx hK => hassign l x W _ K rfl (hK _ _ ((KeepsOthers.alloc _ _).from _) (hKa _ _) (hI.alloc _ hi) ⟨_, hIs _ _ hi, rfl, heap_alloc_new _ _, hx⟩))
    (fun l pre x a' W hl hr hi hx => by obtain ⟨b, h1, rfl, h3, h4⟩ := hx; exact hbody l pre x b W hl h1 hi h3 h4) hdone hstop
end

def gapStep (s : List UInt8 × (Int × Int)) (x : Int × Int) : List UInt8 × (Int × Int) :=
  if x.1 = 0 ∧ x.2 = 0 then (s.1, x) else if x.1 = (gplus s.2 (1, 0)).1 ∧ x.2 = (gplus s.2 (1, 0)).2 then (s.1 ++ [76], x) else (s.1 ++ [83], x)
def gapsRun (xs : List (Int × Int)) : List UInt8 × (Int × Int) := xs.foldl gapStep ([], (-1, 0))
theorem gapsRun_snoc (xs : List (Int × Int)) (x : Int × Int) : gapsRun (xs ++ [x]) = gapStep (gapsRun xs) x := by
  unfold gapsRun; rw [List.foldl_append]; rfl
theorem gapStep_len (s : List UInt8 × (Int × Int)) (x : Int × Int) : (gapStep s x).1.length ≤ s.1.length + 1 := by
  unfold gapStep; split
  · simp
  · split <;> simp
theorem gapsRun_len (xs : List (Int × Int)) : (gapsRun xs).1.length ≤ xs.length := by
  suffices H : ∀ (xs : List (Int × Int)) (s : List UInt8 × (Int × Int)), (xs.foldl gapStep s).1.length ≤ s.1.length + xs.length from (by unfold gapsRun; simpa using H xs ([], (-1, 0)))
  intro xs
  induction xs with
  | nil => intro s; simp
  | cons x xs ih => intro s; rw [List.foldl_cons]; have := ih (gapStep s x); have := gapStep_len s x; simp; omega
theorem keepX_setX {X : Nat → Prop} {W : World} {b j : Nat} (h : X b) (v : Value) : KeepX X W (W.setCell ⟨b, j, none⟩ v) :=
  ⟨by rw [World.size_setCell]; exact Nat.le_refl _, fun q hq hx => heap_setCell_other _ _ _ _ (fun e => hx (by have : q = b := e; rw [this]; exact h))⟩
theorem keeps_below {B : Nat} {V V' : World} (h : Below V.heap.size V V') : KeepsFrom B V V' := ⟨h.size, fun k o _ hk _ => (h.block k (heap_lt hk)).trans hk⟩
def gapStr (n : Nat) : List UInt8 := (gapsRun (rungsL (n + 1))).1
theorem within_g (n lo hi : Int) (h1 : lo ≤ n) (h2 : n ≤ hi) (w : World) :
    Calls Try.prog 9 #[.int .i64 n, .int .i64 lo, .int .i64 hi] w fun e w' => e = .returned (.bool true) ∧ w = w' := by
  have h3 : decide (lo ≤ n) = true := decide_eq_true h1
  have h4 : decide (n ≤ hi) = true := decide_eq_true h2
  go_enter Try.func9, Try.ntmps9
  go_wp2
  go_ret
  exact ⟨by first | rfl | trace_state, rfl⟩
theorem eq_gold (a b c d : Int) (w : World) : (Op.equalIn 10000 35 (.agg #[.int .i64 a, .int .i64 b]) (.agg #[.int .i64 c, .int .i64 d])).run Try.prog w = .ok (decide (a = c ∧ b = d)) w := by
  by_cases h1 : a = c
  · by_cases h2 : b = d
    · subst h1; subst h2; go_simp
    · go_simp
  · go_simp
set_option maxRecDepth 100000 in
set_option maxHeartbeats 3200000 in
theorem Gaps_any (n : Nat) (hn : n ≤ 60) (w : World) :
    Calls Try.prog 5 #[.int .i64 n] w fun e w' => e = .returned (.tuple #[sv (gapStr n), .int .i64 0]) ∧ Below w.heap.size w w' := by
  have HWI : Hid (∀ W : World, Calls Try.prog 9 #[.int .i64 n, .int .i64 0, .int .i64 1000] W fun e w' => e = .returned (.bool true) ∧ W = w') := Lib.hid (fun W => within_g _ _ _ (by omega) (by omega) W)
  refine (callsIn_wide (n := 20)).1 ?_
  refine callsIn_of_wp_marks Try.func5 rfl trivial ?_ rfl
  simp only [Try.ntmps5, List.size_toArray, List.length_cons, List.length_nil, Nat.reduceAdd, Nat.reduceSub, Array.replicate_succ, Array.replicate_zero, List.push_toArray, List.append_toArray, List.nil_append, List.cons_append]
  gi_wp2_with fail
  refine ⟨trivial, (callsIn_wide.2 (HWI.out _)).mono ?_⟩
  rintro e w2 ⟨rfl, rfl⟩
  have n1 : IntKind.i64.wrap ((n : Int) + 1) = (n : Int) + 1 := IntWalk.i64_in _ (by omega)
  gi_wp2_with fail
  refine ⟨trivial, (callsIn_wide.2 (rungs_any _ _)).mono ?_⟩
  rintro e w1 ⟨rfl, rfl⟩
  have h4 : (((w.alloc (.cells #[.string { data := #[] }] 9)).alloc (.cells #[.int .i64 (-1), .int .i64 0] 35)).alloc (.cells #[.int .i64 ((n : Int) + 1)] 3)).heap[w.heap.size]? = some (.cells #[sv []] 9 (0, 0)) := alloc_old (alloc_old (heap_alloc_new _ _))
  have h5 : (((w.alloc (.cells #[.string { data := #[] }] 9)).alloc (.cells #[.int .i64 (-1), .int .i64 0] 35)).alloc (.cells #[.int .i64 ((n : Int) + 1)] 3)).heap[w.heap.size + 1]? = some (.cells #[.int .i64 (-1), .int .i64 0] 35 (0, 0)) := alloc_old (heap_alloc_at _ _ _ (by simp))
  have h6 : (((w.alloc (.cells #[.string { data := #[] }] 9)).alloc (.cells #[.int .i64 (-1), .int .i64 0] 35)).alloc (.cells #[.int .i64 ((n : Int) + 1)] 3)).heap[w.heap.size + 1 + 1]? = some (.cells #[.int .i64 ((n + 1 : Nat) : Int)] 3 (0, 0)) := by
    rw [show ((n + 1 : Nat) : Int) = (n : Int) + 1 by omega]; exact heap_alloc_at _ _ _ (by simp)
  have hbw : Below w.heap.size w (((w.alloc (.cells #[.string { data := #[] }] 9)).alloc (.cells #[.int .i64 (-1), .int .i64 0] 35)).alloc (.cells #[.int .i64 ((n : Int) + 1)] 3)) := (((Below.refl _ w).alloc (Nat.le_refl _) _).alloc (by simp) _).alloc (by simp <;> omega) _
  have hsz : (((w.alloc (.cells #[.string { data := #[] }] 9)).alloc (.cells #[.int .i64 (-1), .int .i64 0] 35)).alloc (.cells #[.int .i64 ((n : Int) + 1)] 3)).heap.size = w.heap.size + 3 := by simp
  generalize hW0 : World.alloc (World.alloc (World.alloc w _) _) _ = W0 at *
  have H4 := Lib.hid h4
  have H5 := Lib.hid h5
  have H6 := Lib.hid h6
  have HBW := Lib.hid hbw
  clear h4 h5 h6 hbw hW0
  gi_wp2_with fail
  refine range_imgs_box (gf := 20) (lb := #[.pointer (some ⟨w.heap.size + 1 + 1, 0, none⟩)]) rfl (enters_of Try.func20 (by kernel_rfl) rfl)
    (given_B (rungs1_given (fun b => b = w.heap.size ∨ b = w.heap.size + 1 ∨ b = W0.heap.size ∨ b = W0.heap.size + 1) (w.heap.size + 1 + 1) (n + 1) _ W0 (fun b hb => by omega) H6.out (by omega)))
    (fun h k => KeepX.trans h k) (fun W o' => KeepX.putObj (.inr (.inr (.inr rfl)))) (fun W o => KeepX.of_below ((Below.refl _ _).alloc (Nat.le_refl _) _)) (fun _ => rfl)
    (fun pre V => V.heap[w.heap.size]? = some (.cells #[sv (gapsRun pre).1] 9 (0, 0)) ∧ V.heap[w.heap.size + 1]? = some (.cells #[.int .i64 (gapsRun pre).2.1, .int .i64 (gapsRun pre).2.2] 35 (0, 0)) ∧ Below w.heap.size w V ∧ W0.heap.size ≤ V.heap.size)
    (fun c pre V => False) (fun x => .cells #[.int .i64 x.1, .int .i64 x.2] 35) (fun _ => rfl)
    ?a1 ?hI ?hIx ?hIB (fun pre V h => h.2.2.2) ⟨H4.out, H5.out, HBW.out, Nat.le_refl _⟩ ?assign ?body ?done ?stop
  case assign =>
    intro l x W b K hb hK
    simp only [rungEnc, gv]
    gi_wp2
    rw [← hb]
    exact hK
  case hI =>
    rintro s' V V' row' ⟨h4, h5, hb, hs⟩ hg hr
    exact ⟨own_block hg hr (by omega) h4, own_block hg hr (by omega) h5, hb.grown hg hb.size (fun q e => by have := (hr q e).1; omega), Nat.le_trans hs hg.size⟩
  case hIx =>
    rintro c s' V V' row' h hg hr
    exact h
  case hIB =>
    rintro s' V b j v hbb ⟨h4, h5, hb, hs⟩
    exact ⟨(heap_setCell_other _ _ _ _ (by show w.heap.size ≠ b; omega)).trans h4, (heap_setCell_other _ _ _ _ (by show w.heap.size + 1 ≠ b; omega)).trans h5, hb.setCell (p := ⟨b, j, none⟩) (by show w.heap.size ≤ b; omega) _, by simpa using hs⟩
  case stop =>
    rintro D c pre V hD hpre h
    exact h.elim
  case body =>
    rintro l pre ⟨xa, xb⟩ b V hl' hbb ⟨h4, h5, hb, hs⟩ h6 hpx
    simp only at h6
    obtain ⟨so, ⟨la, lb⟩, hso⟩ : ∃ so l, gapsRun pre = (so, l) := ⟨_, _, rfl⟩
    rw [hso] at h4 h5
    simp only at h4 h5
    have HSN : Hid (gapsRun (pre ++ [(xa, xb)]) = gapStep (so, (la, lb)) (xa, xb)) := Lib.hid (by rw [gapsRun_snoc, hso])
    have q4 := cell_of h4 (j := 0) rfl
    have f4 := free_of h4 0
    have q5a := cell_of h5 (j := 0) rfl
    have q5b := cell_of h5 (j := 1) rfl
    have f5a := free_of h5 0
    have f5b := free_of h5 1
    have q6a := cell_of h6 (j := 0) rfl
    have q6b := cell_of h6 (j := 1) rfl
    have l4 := heap_lt h4
    have l5 := heap_lt h5
    have l6 := heap_lt h6
    have H4' := Lib.hid h4
    have H5' := Lib.hid h5
    have H6' := Lib.hid h6
    have HB := Lib.hid hb
    have HEQ := eq_gold xa xb 0 0
    have hln : so.length ≤ 100 := by
      have h1 := gapsRun_len pre
      rw [hso] at h1
      have h2 := hpx.length_le
      simp [rungsL] at h2
      simp only at h1
      omega
    clear hso h4 h5 h6 hb hpx
    by_cases hz : xa = 0 ∧ xb = 0
    · rw [decide_eq_true hz] at HEQ
      have HGS2 : Hid (gapsRun (pre ++ [(xa, xb)]) = (so, (xa, xb))) := Lib.hid (by rw [HSN.out]; unfold gapStep; simp only; rw [if_pos hz])
      clear hz HSN q4 f4
      gi_wp2_with fail
      refine ⟨(keeps_set _ _ _ _ _).trans (keeps_set _ _ _ _ _), (keepX_setX (.inr (.inl rfl)) _).trans (keepX_setX (.inr (.inl rfl)) _), ?_, ?_, ?_, ?_⟩
      · rw [HGS2.out]
        exact (heap_setCell_other _ _ _ _ (by show w.heap.size ≠ w.heap.size + 1; omega)).trans ((heap_setCell_other _ _ _ _ (by show w.heap.size ≠ w.heap.size + 1; omega)).trans H4'.out)
      · rw [HGS2.out]
        exact set_heap_same (j := 1) (set_heap_same (j := 0) H5'.out)
      · exact (HB.out.setCell (p := ⟨w.heap.size + 1, 0, none⟩) (by show w.heap.size ≤ w.heap.size + 1; omega) _).setCell (p := ⟨w.heap.size + 1, 1, none⟩) (by show w.heap.size ≤ w.heap.size + 1; omega) _
      · simp only [World.size_setCell]; exact hs
    · rw [decide_eq_false hz] at HEQ
      obtain ⟨ra, rb, hr⟩ : ∃ ra rb, gplus (la, lb) (1, 0) = (ra, rb) := ⟨_, _, rfl⟩
      have HPL : Hid (∀ W : World, Calls Try.prog 11 #[.agg #[.int .i64 la, .int .i64 lb], .agg #[.int .i64 1, .int .i64 0]] W fun e w' => e = .returned (.agg #[.int .i64 ra, .int .i64 rb]) ∧ Below W.heap.size W w') := Lib.hid (fun W => by
        have := plus_any (la, lb) (1, 0) W
        rw [hr] at this; exact this)
      have HEQ2 := eq_gold xa xb ra rb
      have HGS : Hid (gapStep (so, (la, lb)) (xa, xb) = if xa = ra ∧ xb = rb then (so ++ [76], (xa, xb)) else (so ++ [83], (xa, xb))) := Lib.hid (by
        unfold gapStep; simp only; rw [if_neg hz, hr])
      clear hr
      by_cases h2 : xa = ra ∧ xb = rb
      · rw [decide_eq_true h2] at HEQ2
        have HGS2 : Hid (gapsRun (pre ++ [(xa, xb)]) = (so ++ [76], (xa, xb))) := Lib.hid (by rw [HSN.out, HGS.out, if_pos h2])
        clear h2 hz HGS HSN
        gi_wp2_with fail
        refine region_thenC (C := fun V' => Below V.heap.size V V') 5 rfl rfl rfl (by kernel_rfl) (by kernel_rfl) (by kernel_rfl) (by kernel_rfl) (by kernel_rfl) (by kernel_rfl) (Below.refl _ _).drew ?_
        dsimp only [List.dropLast]
        refine quiet_value (.agg #[.int .i64 xa, .int .i64 xb]) rfl (fun w => rfl) (fun V' hC => ?_) ?_
        · have c0 := (hC.cell (p := ⟨b, 0, none⟩) l6).trans q6a
          have c1 := (hC.cell (p := ⟨b, 1, none⟩) l6).trans q6b
          clear hC q4 q5a q5b q6a q6b
          go_simp
        dsimp only [Act.put, List.setIfInBounds_toArray, List.set_cons_zero, List.set_cons_succ]
        refine quiet_value (.agg #[.int .i64 la, .int .i64 lb]) rfl (fun w => rfl) (fun V' hC => ?_) ?_
        · have c0 := (hC.cell (p := ⟨w.heap.size + 1, 0, none⟩) l5).trans q5a
          have c1 := (hC.cell (p := ⟨w.heap.size + 1, 1, none⟩) l5).trans q5b
          clear hC q4 q5a q5b q6a q6b
          go_simp
        dsimp only [Act.put, List.setIfInBounds_toArray, List.set_cons_zero, List.set_cons_succ]
        refine quiet_value (.agg #[.int .i64 1, .int .i64 0]) rfl (fun w => rfl) (fun V' hC => ?_) ?_
        · clear hC q4 q5a q5b q6a q6b
          go_simp
        dsimp only [Act.put, List.setIfInBounds_toArray, List.set_cons_zero, List.set_cons_succ]
        refine quiet_call (.agg #[.int .i64 ra, .int .i64 rb]) 11 #[.agg #[.int .i64 la, .int .i64 lb], .agg #[.int .i64 1, .int .i64 0]] rfl (fun _ => trivial) (fun h => by simp [Fence.wide, Fence.inRound] at h) (fun V' hC => ?_) (fun V' hC => ?_) ?_
        · clear hC q4 q5a q5b q6a q6b
          go_simp
        · exact (callsIn_wide.2 (HPL.out V')).mono fun e V'' h => ⟨h.1, below_to hC hC.size h.2⟩
        dsimp only [Act.put, List.setIfInBounds_toArray, List.set_cons_zero, List.set_cons_succ]
        refine quiet_value (.bool true) rfl (fun w => rfl) (fun V' hC => ?_) ?_
        · clear hC q4 q5a q5b q6a q6b
          go_simp
        dsimp only [Act.put, List.setIfInBounds_toArray, List.set_cons_zero, List.set_cons_succ]
        refine wpQuietIn_nil fun V' hC => ?_
        have c6a := (hC.cell (p := ⟨b, 0, none⟩) l6).trans q6a
        have c6b := (hC.cell (p := ⟨b, 1, none⟩) l6).trans q6b
        have k4 := (hC.block _ l4).trans H4'.out
        have k5 := (hC.block _ l5).trans H5'.out
        have c4 := cell_of k4 (j := 0) rfl
        have g4 := free_of k4 0
        have c5a := cell_of k5 (j := 0) rfl
        have c5b := cell_of k5 (j := 1) rfl
        have g5a := free_of k5 0
        have g5b := free_of k5 1
        have l4' := heap_lt k4
        have l5' := heap_lt k5
        have K4 := Lib.hid k4
        have K5 := Lib.hid k5
        have HC := Lib.hid hC
        clear q4 q5a q5b q6a q6b f4 f5a f5b hC k4 k5 HEQ HEQ2
        have hcat : ByteArray.mk so.toArray ++ { data := #[76] } = ⟨(so ++ [76]).toArray⟩ := bytes_add so [76]
        go_simp
        gi_wp2_with fail
        refine ⟨((keeps_below HC.out).trans (keeps_set _ _ _ _ _)).trans ((keeps_set _ _ _ _ _).trans (keeps_set _ _ _ _ _)), ((KeepX.of_below HC.out).trans (keepX_setX (.inl rfl) _)).trans ((keepX_setX (.inr (.inl rfl)) _).trans (keepX_setX (.inr (.inl rfl)) _)), ?_, ?_, ?_, ?_⟩
        · rw [HGS2.out]
          exact (heap_setCell_other _ _ _ _ (by show w.heap.size ≠ w.heap.size + 1; omega)).trans ((heap_setCell_other _ _ _ _ (by show w.heap.size ≠ w.heap.size + 1; omega)).trans (set_heap_same K4.out))
        · rw [HGS2.out]
          exact set_heap_same (j := 1) (set_heap_same (j := 0) ((heap_setCell_other _ _ _ _ (by show w.heap.size + 1 ≠ w.heap.size; omega)).trans K5.out))
        · exact (((HB.out.trans (HC.out.mono HB.out.size)).setCell (p := ⟨w.heap.size, 0, none⟩) (Nat.le_refl _) _).setCell (p := ⟨w.heap.size + 1, 0, none⟩) (by show w.heap.size ≤ w.heap.size + 1; omega) _).setCell (p := ⟨w.heap.size + 1, 1, none⟩) (by show w.heap.size ≤ w.heap.size + 1; omega) _
        · have := HC.out.size
          simp only [World.size_setCell]; omega
      · rw [decide_eq_false h2] at HEQ2
        have HGS2 : Hid (gapsRun (pre ++ [(xa, xb)]) = (so ++ [83], (xa, xb))) := Lib.hid (by rw [HSN.out, HGS.out, if_neg h2])
        clear h2 hz HGS HSN
        gi_wp2_with fail
        refine region_thenC (C := fun V' => Below V.heap.size V V') 5 rfl rfl rfl (by kernel_rfl) (by kernel_rfl) (by kernel_rfl) (by kernel_rfl) (by kernel_rfl) (by kernel_rfl) (Below.refl _ _).drew ?_
        dsimp only [List.dropLast]
        refine quiet_value (.agg #[.int .i64 xa, .int .i64 xb]) rfl (fun w => rfl) (fun V' hC => ?_) ?_
        · have c0 := (hC.cell (p := ⟨b, 0, none⟩) l6).trans q6a
          have c1 := (hC.cell (p := ⟨b, 1, none⟩) l6).trans q6b
          clear hC q4 q5a q5b q6a q6b
          go_simp
        dsimp only [Act.put, List.setIfInBounds_toArray, List.set_cons_zero, List.set_cons_succ]
        refine quiet_value (.agg #[.int .i64 la, .int .i64 lb]) rfl (fun w => rfl) (fun V' hC => ?_) ?_
        · have c0 := (hC.cell (p := ⟨w.heap.size + 1, 0, none⟩) l5).trans q5a
          have c1 := (hC.cell (p := ⟨w.heap.size + 1, 1, none⟩) l5).trans q5b
          clear hC q4 q5a q5b q6a q6b
          go_simp
        dsimp only [Act.put, List.setIfInBounds_toArray, List.set_cons_zero, List.set_cons_succ]
        refine quiet_value (.agg #[.int .i64 1, .int .i64 0]) rfl (fun w => rfl) (fun V' hC => ?_) ?_
        · clear hC q4 q5a q5b q6a q6b
          go_simp
        dsimp only [Act.put, List.setIfInBounds_toArray, List.set_cons_zero, List.set_cons_succ]
        refine quiet_call (.agg #[.int .i64 ra, .int .i64 rb]) 11 #[.agg #[.int .i64 la, .int .i64 lb], .agg #[.int .i64 1, .int .i64 0]] rfl (fun _ => trivial) (fun h => by simp [Fence.wide, Fence.inRound] at h) (fun V' hC => ?_) (fun V' hC => ?_) ?_
        · clear hC q4 q5a q5b q6a q6b
          go_simp
        · exact (callsIn_wide.2 (HPL.out V')).mono fun e V'' h => ⟨h.1, below_to hC hC.size h.2⟩
        dsimp only [Act.put, List.setIfInBounds_toArray, List.set_cons_zero, List.set_cons_succ]
        refine quiet_value (.bool false) rfl (fun w => rfl) (fun V' hC => ?_) ?_
        · clear hC q4 q5a q5b q6a q6b
          go_simp
        dsimp only [Act.put, List.setIfInBounds_toArray, List.set_cons_zero, List.set_cons_succ]
        refine wpQuietIn_nil fun V' hC => ?_
        have c6a := (hC.cell (p := ⟨b, 0, none⟩) l6).trans q6a
        have c6b := (hC.cell (p := ⟨b, 1, none⟩) l6).trans q6b
        have k4 := (hC.block _ l4).trans H4'.out
        have k5 := (hC.block _ l5).trans H5'.out
        have c4 := cell_of k4 (j := 0) rfl
        have g4 := free_of k4 0
        have c5a := cell_of k5 (j := 0) rfl
        have c5b := cell_of k5 (j := 1) rfl
        have g5a := free_of k5 0
        have g5b := free_of k5 1
        have l4' := heap_lt k4
        have l5' := heap_lt k5
        have K4 := Lib.hid k4
        have K5 := Lib.hid k5
        have HC := Lib.hid hC
        clear q4 q5a q5b q6a q6b f4 f5a f5b hC k4 k5 HEQ HEQ2
        have hcat : ByteArray.mk so.toArray ++ { data := #[83] } = ⟨(so ++ [83]).toArray⟩ := bytes_add so [83]
        go_simp
        gi_wp2_with fail
        refine ⟨((keeps_below HC.out).trans (keeps_set _ _ _ _ _)).trans ((keeps_set _ _ _ _ _).trans (keeps_set _ _ _ _ _)), ((KeepX.of_below HC.out).trans (keepX_setX (.inl rfl) _)).trans ((keepX_setX (.inr (.inl rfl)) _).trans (keepX_setX (.inr (.inl rfl)) _)), ?_, ?_, ?_, ?_⟩
        · rw [HGS2.out]
          exact (heap_setCell_other _ _ _ _ (by show w.heap.size ≠ w.heap.size + 1; omega)).trans ((heap_setCell_other _ _ _ _ (by show w.heap.size ≠ w.heap.size + 1; omega)).trans (set_heap_same K4.out))
        · rw [HGS2.out]
          exact set_heap_same (j := 1) (set_heap_same (j := 0) ((heap_setCell_other _ _ _ _ (by show w.heap.size + 1 ≠ w.heap.size; omega)).trans K5.out))
        · exact (((HB.out.trans (HC.out.mono HB.out.size)).setCell (p := ⟨w.heap.size, 0, none⟩) (Nat.le_refl _) _).setCell (p := ⟨w.heap.size + 1, 0, none⟩) (by show w.heap.size ≤ w.heap.size + 1; omega) _).setCell (p := ⟨w.heap.size + 1, 1, none⟩) (by show w.heap.size ≤ w.heap.size + 1; omega) _
        · have := HC.out.size
          simp only [World.size_setCell]; omega
  case done =>
    rintro D zs V hD rfl ⟨h4, h5, hb, hs⟩ hK
    have hm2 := (show Marks w.heap.size W0.heap.size [] V from trivial).add (D := D) (by omega) hD hK
    have HM := Lib.hid hm2
    have HB := Lib.hid hb
    have q4 := cell_of h4 (j := 0) rfl
    clear h4 h5 hb hs hm2 hK
    gi_wp2_with fail
    refine leave_marks _ _ _ HM.out fun w' hsh => ?_
    exact ⟨_, results_tmp2 rfl _ _ _, rfl, HB.out.trans hsh.below⟩
end Go.Proofs.Ytfjbggodniemeaa
