/- Slices of orders that a call has collected; slices.ContainsFunc and slices.MinFunc of them. -/
import Derived.Test.YtlgonmnbedddaaaCmpO
import Derived.Test.YtlgonmnbedddaaaTurned
set_option linter.unusedVariables false
set_option linter.unusedSimpArgs false
namespace Go.Proofs.Ytlgonmnbedddaaa
open Go.RowKit

theorem infoOrd : (Try.prog.info? 48).map (fun i => (i.zero, i.size, i.bytes)) = some (some (.slice none 0 0), 1, 24) := by kernel_rfl
/-- a row keeps what it is while a block of another type is written -/
theorem OwnRow.grownO {base : Nat} {w w' : World} {v : Value} {xs : List Int} {row : Option Nat} (h : OwnRow base w v xs) (hg : w.grownBy w' row) (hr : ∀ r, row = some r → ∃ cs fr, w.heap[r]? = some (.cells cs 48 fr)) : OwnRow base w' v xs := by
  obtain ⟨h1, h2 | ⟨g, cap, cur, h3, h4, h5, h6⟩⟩ := h
  · exact ⟨h1, .inl h2⟩
  · refine ⟨h1, .inr ⟨g, cap, cur, h3, h4, ?_, h6⟩⟩
    rw [hg.block g (heap_lt h5) (fun e => ?_)]
    · exact h5
    · obtain ⟨cs, fr, hc⟩ := hr g e.symm
      rw [h5] at hc
      injection hc with hc
      injection hc with _ hc _
      exact absurd hc (by decide)
theorem OwnRow.slice {base : Nat} {w : World} {v : Value} {xs : List Int} (h : OwnRow base w v xs) : ∃ a l c, v = .slice a l c := by
  obtain ⟨_, h1 | ⟨g, cap, cur, h1, _⟩⟩ := h
  · exact ⟨_, _, _, h1.1⟩
  · exact ⟨_, _, _, h1⟩

/-- 'v' is a slice of orders that has been collected since the world was 'w0'; the orders lie in memory that holds ints alone -/
def OCol (w0 w : World) (v : Value) (xss : List (List Int)) : Prop := ∃ vs, w.ownsRow w0.heap.size 48 1 v vs.length vs ∧ RowsAre 0 w vs xss ∧ Below w0.heap.size w0 w
theorem OCol.nil (w0 : World) : OCol w0 w0 (.slice none 0 0) [] := ⟨[], World.ownsRow_nil _ _ _ _, trivial, Below.refl _ _⟩
theorem OCol.below {w0 w : World} {v : Value} {xss : List (List Int)} (h : OCol w0 w v xss) : Below w0.heap.size w0 w := by obtain ⟨_, _, _, h⟩ := h; exact h
theorem OCol.step {w0 w w' : World} {v : Value} {xss : List (List Int)} (h : OCol w0 w v xss) (hb : Below w.heap.size w w') : OCol w0 w' v xss := by
  obtain ⟨vs, h1, h2, h3⟩ := h
  exact ⟨vs, World.ownsRow.below' h1 hb, h2.imp fun _ _ h => h.below hb, h3.trans (hb.mono h3.size)⟩
theorem OCol.open {w0 w : World} {v : Value} {xss : List (List Int)} (h : OCol w0 w v xss) :
    ∃ a cap, v = .slice a xss.length cap ∧ xss.length ≤ cap ∧ cap ≤ maxLen ∧
      (∀ k, k < xss.length → ∃ b r, a = some ⟨b, 0, none⟩ ∧ b < w.heap.size ∧ w.cell? ⟨b, k, none⟩ = some r ∧ OwnRow 0 w r (xss.getD k [])) := by
  obtain ⟨vs, ⟨h0, h1⟩, h2, h3⟩ := h
  have hl := h2.len
  rcases h1 with ⟨rfl, h1⟩ | ⟨g, cap, cur, rfl, hb, hg, hn, hm, hc, ht⟩
  · refine ⟨none, 0, by rw [← hl, h1], by omega, by simp [maxLen], fun k hk => by omega⟩
  · refine ⟨some ⟨g, 0, none⟩, cap, by rw [hl], by omega, hm, fun k hk => ?_⟩
    obtain ⟨r, h4, h5⟩ := h2.at k hk
    refine ⟨g, r, rfl, heap_lt hg, ?_, h5⟩
    rw [cell_of_row _ _ _ _ _ _ hg, ← h4]
    have hk' : k < vs.length := by omega
    have e : cur.toList[k]? = vs[k]? := by
      conv => rhs; rw [← ht]
      rw [List.getElem?_take, if_pos (by omega)]
    simpa using e
theorem OCol.cells {w0 w : World} {v : Value} {xss : List (List Int)} (h : OCol w0 w v xss) : ∀ r, v.ownBlock = some r → ∃ cs fr, w.heap[r]? = some (.cells cs 48 fr) := by
  obtain ⟨vs, ⟨h0, h1⟩, h2, h3⟩ := h
  intro r hr
  rcases h1 with ⟨rfl, h1⟩ | ⟨g, cap, cur, rfl, hb, hg, hn, hm, hc, ht⟩
  · cases hr
  · cases hr; exact ⟨_, _, hg⟩
/-- 'out = append(out, order)' of a slice of orders -/
theorem append_order {ops : Array Oper} {rest : List Oper} {o : Oper} {a : Act} {w0 w : World} {Q : Exit → Act → World → Prop} (hgd : o.guard = none) (s x : Operand)
    (ho : o.op = .call { callee := .builtin .append, args := #[s, x], argTypes := #[51, 51] }) {v r sl : Value} {xss : List (List Int)} {ys xs : List Int} (hc : OCol w0 w v xss) (hrow : OwnRow 0 w r ys) (hsl : OwnRow 0 w sl xs) (hs : a.eval s = v)
    (hx : a.eval x = .slice (some ⟨w.heap.size, 0, none⟩) 1 1) (hlen : xss.length ≤ 1000000000)
    (h : ∀ v' w', OCol w0 w' v' (xss ++ [ys]) → OwnRow 0 w' sl xs → wpList Try.prog ops Q rest (a.put o.dst v') w') : wpList Try.prog ops Q (o :: rest) a (w.alloc (.cells #[r] 48)) := by
  obtain ⟨i0, hi, hz0, hz1, hz2⟩ := info_parts infoOrd
  have hb1 : Below w.heap.size w (w.alloc (.cells #[r] 48)) := (Below.refl _ _).alloc (Nat.le_refl _) _
  have hc1 := hc.step hb1
  have hr1 := hrow.below hb1
  have hs1 := hsl.below hb1
  have hc2 := hc1
  obtain ⟨vs, g1, g2, g3⟩ := hc2
  have hl := g2.len
  refine wpList_append_own _ hgd s x 51 ho w0.heap.size 48 i0 (.slice none 0 0) 1 24 Try.underlying51 hi hz0 hz1 hz2 rfl (by decide) v vs.length vs hs g1 ⟨w.heap.size, 0, none⟩ 1 1 [r] hx rfl (cell_one_new _ _ _) (by intro u hu; simp only [List.mem_singleton] at hu; subst hu; exact hrow.one) (by simp only [maxLen]; omega) (by omega) g3.size ?_
  intro v' w' hown' hgrow hnil
  have hcl := hc1.cells
  refine h v' w' ?_ (hs1.grownO hgrow hcl)
  exact ⟨vs ++ [r], by simpa using hown', RowsAre.snoc (hr1.grownO hgrow hcl) (g2.imp fun _ _ h => h.grownO hgrow hcl), g3.grown hgrow g3.size (fun k e => (World.ownsRow.lt g1 k e).1)⟩

theorem first1_any (v u : Value) (xs ys : List Int) (B : Nat) (w : World) (hr : Reads w v xs) (hs : Reads w u ys) (hl : xs.length = ys.length) (hB : w.heap[B]? = some (.cells #[u] 48)) :
    Calls Try.prog 21 #[v, .pointer (some ⟨B, 0, none⟩)] w fun e w' => e = .returned (.bool (decide (xs = ys))) ∧ ∃ m, w' = w.drewN m := by
  have c0 := cell_of hB (j := 0) rfl
  have hs0 := hs
  obtain ⟨a, c, rfl, _, _, _⟩ := hs.open
  clear hs
  go_enter Try.func21, Try.ntmps21
  go_wp2_with fail
  refine (equalO_any _ _ _ _ _ hr hs0 hl).mono ?_
  rintro e w' ⟨rfl, m, rfl⟩
  go_wp2_with fail
  go_ret
  exact ⟨rfl, m, rfl⟩

set_option maxRecDepth 100000 in
set_option maxHeartbeats 800000 in
theorem indexOO_any (v u : Value) (xss : List (List Int)) (ys : List Int) (B : Nat) (w0 w : World) (hc : OCol w0 w v xss) (hs : Reads w u ys) (hlen : ∀ k, k < xss.length → (xss.getD k []).length = ys.length) (hB : w.heap[B]? = some (.cells #[u] 48)) :
    Calls Try.prog 38 #[v, .func (.func 21) #[] #[.pointer (some ⟨B, 0, none⟩)]] w fun e w' => ∃ (i : Int) (m : Nat), e = .returned (.int .i64 i) ∧ decide (0 ≤ i) = decide (ys ∈ xss) ∧ w' = w.drewN m := by
  obtain ⟨a, cap, rfl, h1, h2, hcell⟩ := hc.open
  have h3 : xss.length ≤ 9223372036854775807 := by unfold maxLen at h2; omega
  have HS := Lib.hid hs
  have HB := Lib.hid hB
  have HLN := Lib.hid hlen
  obtain ⟨n, hn⟩ : ∃ n, xss.length = n := ⟨_, rfl⟩
  rw [hn] at hcell h1 h3 ⊢
  have HN := Lib.hid hn
  clear hc h2 hs hB hlen hn
  go_enter Try.func38, Try.ntmps38
  go_wp2_with fail
  go_loopw [8] (fun i wr => ∃ k m : Nat, k ≤ n ∧ i = .int .i64 k ∧ (∀ j, j < k → xss.getD j [] ≠ ys) ∧ wr = w.drewN m) (fun i _ => n - (intOf i).toNat)
  case atStart => exact ⟨0, 0, by omega, rfl, fun j hj => absurd hj (by omega), rfl⟩
  case round =>
    obtain ⟨k, m, hk, rfl, hno, rfl⟩ := hrel
    have HNO := Lib.hid hno
    clear hno
    by_cases hlt : k < n
    · obtain ⟨b, r, rfl, hb, hck, hrow⟩ := hcell k hlt
      have hck' : (w.drewN m).cell? ⟨b, k, none⟩ = some r := ((below_drewN w m).cell (p := ⟨b, k, none⟩) hb).trans hck
      have hrl := HLN.out k (by have := HN.out; omega)
      have hmem : xss.getD k [] ∈ xss := by
        have := HN.out
        rw [List.getD_eq_getElem?_getD, List.getElem?_eq_getElem (by omega)]; exact List.getElem_mem _
      have HMEM := Lib.hid hmem
      have HNO2 : Hid (∀ z, z ≠ ys → xss.getD k [] = z → ∀ j, j < k + 1 → xss.getD j [] ≠ ys) := Lib.hid (fun z hz he j hj => by
        by_cases e : j = k
        · subst e; rw [he]; exact hz
        · exact HNO.out j (by omega))
      generalize hz : xss.getD k [] = z at *
      have HZ := Lib.hid hz
      have k0 : (0 : Int) ≤ (k : Int) := by omega
      have k1 : (k : Int) < (n : Int) := by omega
      obtain ⟨ra, rl, rc, rfl⟩ := hrow.slice
      have HR := Lib.hid (hrow.reads.below (below_drewN w m))
      have HRL := Lib.hid hrl
      clear hcell hck hmem hz hrow hrl
      go_wp2_with fail
      refine (first1_any _ _ z ys B _ HR.out (HS.out.below (below_drewN w m)) HRL.out (((below_drewN w m).block _ (heap_lt HB.out)).trans HB.out)).mono ?_
      rintro e w' ⟨rfl, m2, rfl⟩
      by_cases he : z = ys
      · have HE : Hid (ys ∈ xss) := Lib.hid (by rw [← he]; exact HMEM.out)
        rw [decide_eq_true he]
        clear he
        go_wp2_with fail
        go_ret
        exact ⟨_, _, rfl, by rw [decide_eq_true HE.out, decide_eq_true (by omega)], by first | rfl | exact World.drewN_drewN ..⟩
      · rw [decide_eq_false he]
        have HNE := Lib.hid (HNO2.out z he rfl)
        clear he
        go_wp2_with fail
        go_roundw
        case rel => exact ⟨k + 1, _, by omega, by go_num, HNE.out, by first | rfl | exact World.drewN_drewN ..⟩
        case measure => simp [intOf]; omega
    · obtain rfl : k = n := by omega
      have HNM : Hid (ys ∉ xss) := Lib.hid (fun hm => by
        obtain ⟨j, hj, he⟩ := List.getElem_of_mem hm
        refine HNO.out j (by have := HN.out; omega) ?_
        rw [List.getD_eq_getElem?_getD, List.getElem?_eq_getElem hj]; exact he)
      clear hcell
      go_wp2_with fail
      go_ret
      exact ⟨_, _, rfl, by rw [decide_eq_false HNM.out]; rfl, by first | rfl | exact World.drewN_drewN ..⟩

theorem containsOO_any (v u : Value) (xss : List (List Int)) (ys : List Int) (B : Nat) (w0 w : World) (hc : OCol w0 w v xss) (hs : Reads w u ys) (hlen : ∀ k, k < xss.length → (xss.getD k []).length = ys.length) (hB : w.heap[B]? = some (.cells #[u] 48)) :
    Calls Try.prog 20 #[v, .func (.func 21) #[] #[.pointer (some ⟨B, 0, none⟩)]] w fun e w' => e = .returned (.bool (decide (ys ∈ xss))) ∧ ∃ m, w' = w.drewN m := by
  obtain ⟨a, cap, rfl, _, _, _⟩ := hc.open
  go_enter Try.func20, Try.ntmps20
  go_wp2_with fail
  refine (indexOO_any _ _ xss ys B w0 _ hc hs hlen hB).mono ?_
  rintro e w' ⟨i, m, rfl, hi, rfl⟩
  have HI := Lib.hid hi
  clear hi
  go_wp2_with fail
  go_ret
  exact ⟨ret_bool HI.out, m, rfl⟩

/-- the least of the orders up to place k -/
def minTo (l : List (List Int)) : Nat → List Int
  | 0 => l.getD 0 []
  | k + 1 => if ltB (l.getD (k + 1) []) (minTo l k) = true then l.getD (k + 1) [] else minTo l k
theorem minTo_len {l : List (List Int)} {n : Nat} (h : ∀ k, k < l.length → (l.getD k []).length = n) : ∀ k, k < l.length → (minTo l k).length = n
  | 0, hk => h 0 hk
  | k + 1, hk => by
    unfold minTo
    split
    · exact h _ hk
    · exact minTo_len h k (by omega)

set_option maxRecDepth 100000 in
set_option maxHeartbeats 800000 in
theorem minOO_any (v : Value) (xss : List (List Int)) (L : Nat) (w0 w : World) (hc : OCol w0 w v xss) (hlen : ∀ k, k < xss.length → (xss.getD k []).length = L) (h0 : 0 < xss.length) :
    Calls Try.prog 23 #[v, .func (.func 24) #[] #[]] w fun e w' => ∃ r, e = .returned r ∧ OwnRow 0 w r (minTo xss (xss.length - 1)) ∧ w' = w := by
  obtain ⟨a, cap, rfl, h1, h2, hcell⟩ := hc.open
  have h3 : xss.length ≤ 9223372036854775807 := by unfold maxLen at h2; omega
  have HLN := Lib.hid hlen
  obtain ⟨n, hn⟩ : ∃ n, xss.length = n := ⟨_, rfl⟩
  rw [hn] at hcell h1 h3 h0 ⊢
  have HN := Lib.hid hn
  clear hc h2 hlen hn
  obtain ⟨b, r0, rfl, hb, hc0, hrow0⟩ := hcell 0 h0
  obtain ⟨ra, rl, rc, rfl⟩ := hrow0.slice
  have HR0 := Lib.hid hrow0
  have HCELL : Hid (∀ k, k < n → ∃ r, w.cell? ⟨b, k, none⟩ = some r ∧ OwnRow 0 w r (xss.getD k [])) := Lib.hid (fun k hk => by
    obtain ⟨b', r, he, _, h4, h5⟩ := hcell k hk
    cases he
    exact ⟨r, h4, h5⟩)
  have k1 : (0 : Int) < (n : Int) := by omega
  have k2 : ¬ (n : Int) < 1 := by omega
  clear hrow0 hcell
  go_enter Try.func23, Try.ntmps23
  go_wp2_with fail
  go_loop [5, 6] (fun r i => ∃ k : Nat, k + 1 ≤ n ∧ i = .int .i64 ((k + 1 : Nat) : Int) ∧ OwnRow 0 w r (minTo xss k)) (fun r i => n - (intOf i).toNat)
  case atStart => exact ⟨0, by omega, rfl, HR0.out⟩
  case round =>
    obtain ⟨k, hk, rfl, hmin⟩ := hrel
    obtain ⟨ma, ml, mc, rfl⟩ := hmin.slice
    have HM := Lib.hid hmin
    clear hmin
    by_cases hlt : k + 1 < n
    · obtain ⟨r, hck, hrow⟩ := HCELL.out (k + 1) hlt
      obtain ⟨ra, rl, rc, rfl⟩ := hrow.slice
      have HR := Lib.hid hrow
      have HLL : Hid ((xss.getD (k + 1) []).length = (minTo xss k).length) := Lib.hid ((HLN.out _ (by have := HN.out; omega)).trans (minTo_len HLN.out k (by have := HN.out; omega)).symm)
      have j0 : (0 : Int) ≤ ((k + 1 : Nat) : Int) := by omega
      have j1 : ((k + 1 : Nat) : Int) < (n : Int) := by omega
      clear hrow
      generalize hq : k + 1 = q at *
      have hmq : minTo xss q = if ltB (xss.getD q []) (minTo xss k) = true then xss.getD q [] else minTo xss k := by rw [← hq]; rfl
      have HMQ := Lib.hid hmq
      have HQ := Lib.hid hq
      clear hmq hq
      generalize hz : xss.getD q [] = z at *
      generalize hmm : minTo xss k = mm at *
      clear hz hmm
      by_cases hl : ltB z mm = true
      · have hneg : decide ((cmpL z mm) < 0) = true := decide_eq_true (cmpL_neg.2 hl)
        have HG := Lib.hid hl
        clear hl
        go_wp2_with (go_at_call 24; refine (compareO_any _ _ _ _ _ HR.out.reads HM.out.reads HLL.out).mono ?_; rintro e w' ⟨rfl, rfl⟩)
        refine ⟨⟨q, by omega, by go_num, by rw [HMQ.out, if_pos HG.out]; exact HR.out⟩, by have := HQ.out; simp [intOf]; omega⟩
      · have hneg : decide ((cmpL z mm) < 0) = false := decide_eq_false fun h => hl (cmpL_neg.1 h)
        have HG := Lib.hid hl
        clear hl
        go_wp2_with (go_at_call 24; refine (compareO_any _ _ _ _ _ HR.out.reads HM.out.reads HLL.out).mono ?_; rintro e w' ⟨rfl, rfl⟩)
        refine ⟨⟨q, by omega, by go_num, by rw [HMQ.out, if_neg HG.out]; exact HM.out⟩, by have := HQ.out; simp [intOf]; omega⟩
    · obtain rfl : n = k + 1 := by omega
      go_wp2_with fail
      go_ret
      exact ⟨_, rfl, HM.out, rfl⟩
end Go.Proofs.Ytlgonmnbedddaaa
