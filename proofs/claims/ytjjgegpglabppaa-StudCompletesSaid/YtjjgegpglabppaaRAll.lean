/- The reference's All. -/
import Derived.Test.YtjjgegpglabppaaMat
import Derived.Test.YtjjgegpglabppaaAllLaw
import Derived.Test.YtjjgegpglabppaaRClear
import Derived.Test.YtjjgegpglabppaaTame
import Derived.Test.YtjjgegpglabppaaLens
import Derived.Laws.AppendOwnNone
set_option linter.unusedVariables false
set_option linter.unusedSimpArgs false
namespace Go.Proofs.Ytjjgegpglabppaa
open Go.RowKit

/-- 'out = append(out, row...)' of a row that may be nil -/
theorem append_row_ints {ops : Array Oper} {rest : List Oper} {o : Oper} {a : Act} {w0 w : World} {Q : Exit → Act → World → Prop} (hgd : o.guard = none) (s x : Operand)
    (ho : o.op = .call { callee := .builtin .append, args := #[s, x], argTypes := #[22, 22] }) {v : Value} {xs ys : List Int} (hc : Col w0 w v xs) (hs : a.eval s = v)
    {r : Value} {base : Nat} (hx : a.eval x = r) (hr : OwnRow base w r ys) (hlen : xs.length ≤ 1000000000) (hlen2 : ys.length ≤ 1000000000)
    (h : ∀ v' w', Col w0 w' v' (xs ++ ys) → wpList Try.prog ops Q rest (a.put o.dst v') w') : wpList Try.prog ops Q (o :: rest) a w := by
  have hrd := hr.reads
  obtain ⟨h1, h2 | ⟨g, cap, cur, h3, _⟩⟩ := hr
  · obtain ⟨rfl, h4⟩ := h2
    obtain rfl : ys = [] := List.eq_nil_of_length_eq_zero h4
    obtain ⟨i0, hi, hz0, hz1, hz2⟩ := info_parts infoInt
    refine wpList_append_own_none hgd s x 22 ho w0.heap.size 3 i0 1 Try.underlying22 hi v xs.length (xs.map (Value.int .i64)) hs hc.own hx (h v w (by simpa using hc))
  · subst h3
    exact append_ints hgd s x ho hc hs hx hrd hlen hlen2 (fun v' w' h5 _ => h v' w' h5)

theorem MCol.one (w : World) : MCol w (w.alloc (.cells #[.slice none 0 0] 22)) (.slice (some ⟨w.heap.size, 0, none⟩) 1 1) [[]] := by
  refine ⟨[.slice none 0 0], ⟨rfl, .inr ⟨w.heap.size, 1, #[.slice none 0 0], rfl, Nat.le_refl _, heap_alloc_new _ _, Nat.le_refl _, by simp [maxLen], rfl, rfl⟩⟩, ⟨World.ownsRow_nil _ _ _ _, trivial⟩, (Below.refl _ _).alloc (Nat.le_refl _) _⟩

/-- the next level, as far as the list at k -/
def lvl (n i k : Nat) : List (List Int) := ((allTo n i).take k).flatMap fun l => stepAll n l n
theorem lvl_succ {n i k : Nat} (hk : k < (allTo n i).length) : lvl n i (k + 1) = lvl n i k ++ stepAll n ((allTo n i).getD k []) n := by
  unfold lvl
  rw [List.take_succ_eq_append_getElem hk, List.flatMap_append]
  simp [hk]
theorem lvl_all {n i k : Nat} (hk : (allTo n i).length ≤ k) : lvl n i k = allTo n (i + 1) := by
  unfold lvl; rw [List.take_of_length_le hk]; rfl
theorem allTo_len {n i : Nat} (hn : n ≤ 7) (hi : i ≤ n) : (allTo n i).length ≤ 1000000 := by
  rw [allTo_enum]
  refine Nat.le_trans (enumL_len n i []) (Nat.le_trans (Nat.pow_le_pow_left hn i) (Nat.le_trans (Nat.pow_le_pow_right (by omega) (show i ≤ 7 by omega)) (by decide)))
theorem lvl_len {n i : Nat} (hn : n ≤ 7) (hi : i < n) (k : Nat) : (lvl n i k).length ≤ 1000000 := by
  have h : (lvl n i k).length ≤ (allTo n (i + 1)).length := by
    have e : allTo n (i + 1) = lvl n i k ++ ((allTo n i).drop k).flatMap (fun l => stepAll n l n) := by
      unfold lvl
      rw [← List.flatMap_append, List.take_append_drop]; rfl
    rw [e, List.length_append]; omega
  exact Nat.le_trans h (allTo_len hn hi)
theorem stepAll_len (n : Nat) (l : List Int) : ∀ m, (stepAll n l m).length ≤ m
  | 0 => by simp [stepAll]
  | m + 1 => by
    rw [stepAll_succ, List.length_append]
    have := stepAll_len n l m
    split <;> simp <;> omega

set_option maxRecDepth 100000 in
set_option maxHeartbeats 3200000 in
theorem refAll_any (n : Nat) (w : World) (hn : n ≤ 7) :
    Calls Try.prog 18 #[.int .i64 n] w fun e w' => ∃ v, e = .returned v ∧ MCol w w' v (allTo n n) := by
  go_enter Try.func18, Try.ntmps18
  go_wp2_with fail
  have hm0 := MCol.one w
  generalize hW0 : World.alloc w _ = W0 at hm0 ⊢
  clear hW0
  go_loopw [3, 4, 5, 6, 7, 8] (fun v i _ _ _ _ wr => ∃ k : Nat, k ≤ n ∧ i = .int .i64 k ∧ MCol w wr v (allTo n k)) (fun _ i _ _ _ _ _ => n - (intOf i).toNat)
  case atStart => exact ⟨0, by omega, rfl, hm0⟩
  case round =>
    obtain ⟨i, hi, rfl, hm⟩ := hrel
    clear hm0
    by_cases hlt : i < n
    · obtain ⟨ao, co, hvo, hco, hco2, _⟩ := hm.open
      have hln := allTo_len hn hi
      generalize hL : (allTo n i).length = L at *
      subst hvo
      have HL := Lib.hid hL
      clear hL hco2
      go_wp2_with fail
      obtain ⟨wo, rfl⟩ : ∃ wo : World, wo = wr := ⟨_, rfl⟩
      go_loopw [5, 6, 7, 8] (fun v k _ _ wr => ∃ j : Nat, j ≤ L ∧ k = .int .i64 j ∧ MCol wo wr v (lvl n i j)) (fun _ k _ _ _ => L - (intOf k).toNat)
      case atStart => exact ⟨0, by omega, rfl, MCol.nil _⟩
      case round =>
        obtain ⟨k, hk, rfl, hmn⟩ := hrel
        by_cases hkl : k < L
        · go_wp2_with fail
          obtain ⟨wp, rfl⟩ : ∃ wp : World, wp = wr := ⟨_, rfl⟩
          go_loopw [5, 7, 8] (fun v x _ wr => ∃ j : Nat, j ≤ n ∧ x = .int .i64 j ∧ MCol wo wr v (lvl n i k ++ stepAll n ((allTo n i).getD k []) j)) (fun _ x _ _ => n - (intOf x).toNat)
          case atStart => exact ⟨0, by omega, rfl, by simpa [stepAll] using hmn⟩
          case round =>
            obtain ⟨x, hx, rfl, hmx⟩ := hrel
            by_cases hxn : x < n
            · have hmo := hm.step hmx.below
              obtain ⟨_, _, he, _, _, hcells⟩ := hmo.open
              rw [HL.out] at he hcells
              cases he
              obtain ⟨b, r, rfl, hb, hc, hrow⟩ := hcells k hkl
              have hrows := allTo_rows n i ((allTo n i).getD k []) (by
                rw [List.getD_eq_getElem?_getD, List.getElem?_eq_getElem (by rw [HL.out]; exact hkl)]; exact List.getElem_mem _)
              generalize hl0 : (allTo n i).getD k [] = l0 at *
              have HL0 := Lib.hid hl0
              have HROWS := Lib.hid hrows
              obtain ⟨ra, rc, rfl⟩ := reads_len hrow.reads
              have hl16 : l0.length ≤ 7 := by rw [hrows.2.2]; omega
              clear hl0 hrows hcells hmo
              have k0 : (0 : Int) ≤ (k : Int) := by omega
              have k1 : (k : Int) < (L : Int) := by omega
              have HROW := Lib.hid hrow
              have HMX := Lib.hid hmx
              have HMN := Lib.hid hmn
              have HM := Lib.hid hm
              clear hrow hmx hmn hm
              go_wp2_with (first
                | (at_builtin; refine append_row_ints rfl _ _ rfl (Col.nil wr) rfl rfl HROW.out (by simp) (by omega) ?_; intro v1 w1 hc1)
                | (at_builtin; refine append_int rfl _ _ rfl hc1 rfl _ rfl (by rw [List.nil_append]; omega) ?_; intro v2 w2 hc2 hne2))
              rw [List.nil_append] at hc2
              have hx7 : (0 : Int) ≤ (x : Int) ∧ (x : Int) ≤ 7 := by omega
              have hsm : ∀ j, -1000000 ≤ gi (l0 ++ [(x : Int)]) j ∧ gi (l0 ++ [(x : Int)]) j ≤ 1000000 := fun j => by
                have h0 : ∀ j, 0 ≤ gi l0 j ∧ gi l0 j ≤ 1000 := fun j => by
                  have hg := (rowsB_iff.1 HROWS.out.1).1
                  by_cases hj : j < l0.length
                  · have := hg j hj; omega
                  · have : gi l0 j = 0 := by simp [gi, List.getElem?_eq_none (Nat.le_of_not_lt hj)]
                    omega
                have := gi_snoc h0 hx7.1 (by omega) j
                omega
              have HSM := Lib.hid hsm
              have hr2 := hc2.reads
              have HLEN : Hid ((l0 ++ [(x : Int)]).length ≤ 1000000) := Lib.hid (by simp; omega)
              have hsz : wo.heap.size ≤ wr.heap.size := HMX.out.below.size
              have hmx2 := HMX.out.step hc2.below
              have hrow2 : OwnRow wo.heap.size w2 v2 (l0 ++ [(x : Int)]) := hc2.row.mono hsz
              have HLA : Hid ((lvl n i k ++ stepAll n l0 x).length ≤ 1000000000) := Lib.hid (by
                rw [List.length_append]
                have := lvl_len hn hlt k
                have := stepAll_len n l0 x
                omega)
              have hstep := stepAll_succ n l0 x
              have HSTEP := Lib.hid hstep
              clear hsm hc2 hc1 hsz hstep hx7
              refine (rows_any _ _ _ _ hr2).mono ?_
              rintro e w3 ⟨rfl, m3, rfl⟩
              have hmx3 := hmx2.step (below_drewN w2 m3)
              have hrow3 := hrow2.below (below_drewN w2 m3)
              have hr3 := hr2.below (below_drewN w2 m3)
              generalize World.drewN w2 m3 = W3 at hmx3 hrow3 hr3 ⊢
              clear hmx2 hrow2 hr2
              rcases hrb : rowsB (l0 ++ [(x : Int)]) n with _ | _
              · have HRB := Lib.hid hrb
                clear hrb
                go_wp2_with fail
                go_roundw
                case rel => exact ⟨x + 1, by omega, by go_num, by rw [HSTEP.out, HRB.out, Bool.false_and, if_neg (by simp), List.append_nil]; exact hmx3⟩
                case measure => simp [intOf]; omega
              · have HRB := Lib.hid hrb
                clear hrb
                go_wp2_with fail
                refine (refIsClear_any _ _ _ HSM.out HLEN.out hr3).mono ?_
                rintro e w4 ⟨rfl, hb4⟩
                have hmx4 := hmx3.step hb4
                have hrow4 := hrow3.below hb4
                obtain ⟨r2a, rlen, r2c, rfl⟩ : ∃ a l c, v2 = .slice a l c := by obtain ⟨a, c, h⟩ := reads_len hr3; exact ⟨a, _, c, h⟩
                clear hmx3 hrow3 hr3 hb4
                rcases hcb : clearB (l0 ++ [(x : Int)]) with _ | _
                · have HCB := Lib.hid hcb
                  clear hcb
                  go_wp2_with fail
                  go_roundw
                  case rel => exact ⟨x + 1, by omega, by go_num, by rw [HSTEP.out, HRB.out, HCB.out, Bool.true_and, if_neg (by simp), List.append_nil]; exact hmx4⟩
                  case measure => simp [intOf]; omega
                · have HCB := Lib.hid hcb
                  have HMX4 := Lib.hid hmx4
                  have HROW4 := Lib.hid hrow4
                  clear hcb hmx4 hrow4
                  go_wp2_with (at_builtin; refine append_row rfl _ _ rfl HMX4.out HROW4.out rfl rfl HLA.out ?_; intro v' w' hcol' hne)
                  go_roundw
                  case rel => exact ⟨x + 1, by omega, by go_num, by rw [HSTEP.out, HRB.out, HCB.out, Bool.true_and, if_pos rfl, ← List.append_assoc]; exact hcol'⟩
                  case measure => simp [intOf]; omega
            · obtain rfl : x = n := by omega
              have HLS := Lib.hid (lvl_succ (n := x) (i := i) (k := k) (by rw [HL.out]; exact hkl))
              go_wp2_with fail
              go_roundw
              case rel => exact ⟨k + 1, by omega, by go_num, by rw [HLS.out]; exact hmx⟩
              case measure => simp [intOf]; omega
        · have HLA := Lib.hid (lvl_all (n := n) (i := i) (k := k) (by rw [HL.out]; omega))
          have hbm := hm.below
          go_wp2_with fail
          go_roundw
          case rel => exact ⟨i + 1, by omega, by go_num, by rw [← HLA.out]; exact hmn.lower hbm⟩
          case measure => simp [intOf]; omega
    · obtain rfl : i = n := by omega
      go_wp2_with fail
      go_ret
      exact ⟨_, rfl, hm⟩
end Go.Proofs.Ytjjgegpglabppaa
