/- The three symmetries: mirrored, exchanged. -/
import Derived.Test.YtlgonmnbedddaaaCloneO
import Derived.Test.YtlgonmnbedddaaaOrd
import Derived.Test.YtlgonmnbedddaaaMat
set_option linter.unusedVariables false
set_option linter.unusedSimpArgs false
namespace Go.Proofs.Ytlgonmnbedddaaa
open Go.RowKit

theorem ordB_under {xs : List Int} (h : ordB xs = true) : ∀ j, 0 ≤ gi xs j ∧ gi xs j ≤ (xs.length : Int) - 1 := by
  have hl := (ordB_len h).1
  simp only [ordB, decide_eq_true_eq] at h
  intro j
  by_cases hj : j < xs.length
  · have := h.2.2.1 _ (gi_mem hj); omega
  · have : gi xs j = 0 := by simp [gi, List.getElem?_eq_none (Nat.le_of_not_lt hj)]
    omega

def mirTo (xs : List Int) (k : Nat) : List Int := (xs.take k).map fun x => (xs.length : Int) - 1 - x
theorem mirTo_succ {xs : List Int} {k : Nat} (hk : k < xs.length) : mirTo xs (k + 1) = mirTo xs k ++ [(xs.length : Int) - 1 - gi xs k] := by
  unfold mirTo; rw [List.take_succ_eq_append_getElem hk, List.map_append, gi_lt hk]; rfl
theorem mirTo_len {xs : List Int} {k : Nat} (hk : k ≤ xs.length) : (mirTo xs k).length = k := by simp [mirTo, hk]

set_option maxRecDepth 100000 in
set_option maxHeartbeats 800000 in
theorem mirrored_any (v : Value) (xs : List Int) (w : World) (hr : Reads w v xs) (ho : ordB xs = true) :
    Calls Try.prog 36 #[v] w fun e w' => ∃ v', e = .returned v' ∧ Col w w' v' (mirTo xs xs.length) := by
  obtain ⟨a, cap, rfl, h1, h2, hcell⟩ := hr.open
  obtain ⟨hl1, hl2⟩ := ordB_len ho
  have HR := Lib.hid (ordB_rng ho)
  clear ho h2 h1 hr
  go_enter Try.func36, Try.ntmps36
  go_wp2_with fail
  go_loopw [3, 8] (fun v i wr => ∃ k : Nat, k ≤ xs.length ∧ i = .int .i64 k ∧ Col w wr v (mirTo xs k)) (fun _ i _ => xs.length - (intOf i).toNat)
  case atStart => exact ⟨0, by omega, rfl, Col.nil _⟩
  case round =>
    obtain ⟨k, hk, rfl, hcol⟩ := hrel
    by_cases hlt : k < xs.length
    · obtain ⟨b, off, rfl, hb, hc⟩ := hcell k hlt
      have hc' : wr.cell? ⟨b, off + k, none⟩ = some (.int .i64 (gi xs k)) := (hcol.below.cell (p := ⟨b, off + k, none⟩) hb).trans hc
      have hk0 : (0 : Int) ≤ (k : Int) := by omega
      have hkl : (k : Int) < (xs.length : Int) := by omega
      have hr1 := HR.out k
      obtain ⟨hr11, hr12⟩ := hr1
      have HL : Hid ((mirTo xs k).length ≤ 1000000000) := Lib.hid (by rw [mirTo_len hk]; omega)
      clear hcell hc
      go_wp2_with (at_builtin; refine append_intO rfl _ _ rfl hcol rfl _ rfl HL.out ?_; intro v' w' hcol' hne)
      go_roundw
      case rel => exact ⟨k + 1, by omega, by go_num, by rw [mirTo_succ hlt]; exact hcol'⟩
      case measure => simp [intOf]; omega
    · have hkl : xs.length = k := by omega
      have HK := Lib.hid hkl
      clear hkl hcell
      go_wp2_with fail
      go_ret
      exact ⟨_, rfl, by rw [HK.out]; exact hcol⟩

def excAt (xs : List Int) (k j : Nat) : Int := if (j : Int) ∈ xs.take k then (xs.idxOf (j : Int) : Nat) else 0
def excL (xs : List Int) : List Int := (List.range xs.length).map fun (j : Nat) => ((xs.idxOf (j : Int) : Nat) : Int)

theorem excAt_succ {xs : List Int} {k m : Nat} (hn : xs.Nodup) (hk : k < xs.length) (hm : gi xs k = m) (j : Nat) : (if j = m then (k : Int) else excAt xs k j) = excAt xs (k + 1) j := by
  unfold excAt
  simp only [mem_take_succ hk]
  by_cases e : j = m
  · subst e
    rw [if_pos rfl, if_pos (.inr hm)]
    rw [gi_lt hk] at hm
    rw [← hm]
    have := hn.idxOf_getElem k hk
    rw [this]
  · rw [if_neg e]
    by_cases h1 : (j : Int) ∈ xs.take k
    · rw [if_pos h1, if_pos (.inl h1)]
    · rw [if_neg h1, if_neg (by rintro (h | h); exact h1 h; rw [hm] at h; omega)]

/-- an order has every row -/
theorem perm_mem {xs : List Int} (ho : ordB xs = true) {j : Nat} (hj : j < xs.length) : (j : Int) ∈ xs := by
  simp only [ordB, decide_eq_true_eq] at ho
  obtain ⟨h1, h2, h3, h4⟩ := ho
  by_cases hm : (j : Int) ∈ xs
  · exact hm
  · exfalso
    have key : ∀ (n : Nat) (l : List Int), l.Nodup → (∀ x ∈ l, 0 ≤ x ∧ x < n) → l.length ≤ n := by
      intro n
      induction n with
      | zero => intro l _ hl; cases l with
        | nil => simp
        | cons x t => have := hl x (by simp); omega
      | succ n ih =>
        intro l hd hl
        have h5 := ih (l.filter (· != (n : Int))) (hd.sublist List.filter_sublist) (fun x hx => by
          rw [List.mem_filter] at hx
          have := hl x hx.1
          have h6 : x ≠ n := by simpa using hx.2
          omega)
        have h7 : (l.filter (· != (n : Int))).length + 1 ≥ l.length := by
          rw [← hd.erase_eq_filter]
          have := List.length_erase_le (a := (n : Int)) (l := l)
          have := List.le_length_erase (a := (n : Int)) (l := l)
          omega
        omega
    have h8 := key xs.length ((j : Int) :: xs) (List.nodup_cons.2 ⟨hm, h4⟩) (fun x hx => by
      rcases List.mem_cons.1 hx with rfl | h
      · omega
      · exact h3 x h)
    simp at h8; omega

set_option maxRecDepth 100000 in
set_option maxHeartbeats 800000 in
theorem exchanged_any (v : Value) (xs : List Int) (w : World) (hr : Reads w v xs) (ho : ordB xs = true) :
    Calls Try.prog 37 #[v] w fun e w' => ∃ v', e = .returned v' ∧ OwnRow w.heap.size w' v' (excL xs) ∧ Below w.heap.size w w' := by
  obtain ⟨a, cap, rfl, h1, h2, hcell⟩ := hr.open
  obtain ⟨hl1, hl2⟩ := ordB_len ho
  have HS := Lib.hid (ordB_under ho)
  have hnd : xs.Nodup := by simp only [ordB, decide_eq_true_eq] at ho; exact ho.2.2.2
  have HND := Lib.hid hnd
  have HO := Lib.hid ho
  clear ho h2 h1 hr hnd
  obtain ⟨i0, hi, hz0, hz1, hz2⟩ := info_parts infoInt
  go_enter Try.func37, Try.ntmps37
  go_wp2_with (refine wpList_make_row _ rfl _ _ 48 rfl 3 i0 (.int .i64 0) Try.underlying48 hi hz0 hz1 rfl .i64 .i64 xs.length rfl rfl (by rw [hz2]; omega) (by omega) ?_)
  have hrow := World.rowIs_made w (.int .i64 0) xs.length 3
  have hbw := (Below.refl w.heap.size w).alloc (Nat.le_refl _) (.cells (madeCells #[.int .i64 0] xs.length) 3)
  generalize hW0 : World.alloc w _ = W0 at hrow hbw ⊢
  clear hW0
  go_loopw [11] (fun i wr => ∃ k : Nat, k ≤ xs.length ∧ i = .int .i64 k ∧ wr.rowIs w.heap.size 3 xs.length (fun j => .int .i64 (excAt xs k j)) ∧ Below w.heap.size w wr) (fun i _ => xs.length - (intOf i).toNat)
  case atStart => exact ⟨0, by omega, rfl, hrow.congr (fun i hi => by simp [excAt]), hbw⟩
  case round =>
    obtain ⟨k, hk, rfl, hrw, hb0⟩ := hrel
    by_cases hlt : k < xs.length
    · obtain ⟨b, off, rfl, hb, hc⟩ := hcell k hlt
      have hc' : wr.cell? ⟨b, off + k, none⟩ = some (.int .i64 (gi xs k)) := (hb0.cell (p := ⟨b, off + k, none⟩) hb).trans hc
      have hk0 : (0 : Int) ≤ (k : Int) := by omega
      have hkl : (k : Int) < (xs.length : Int) := by omega
      have hs1 := HS.out k
      obtain ⟨m, hm⟩ : ∃ m : Nat, gi xs k = m := ⟨(gi xs k).toNat, by omega⟩
      have hm2 : m < xs.length := by omega
      have hm3 : (m : Int) < (xs.length : Int) := by omega
      have hm0 : (0 : Int) ≤ (m : Int) := by omega
      rw [hm] at hc'
      have HM := Lib.hid hm
      have hst := hrw.cell hm2
      have hfr := hrw.frozen m
      clear hcell hc hm hs1
      go_wp2_with fail
      refine ⟨⟨k + 1, by omega, by go_num, (hrw.set m _).congr (fun j hj => ?_), hb0.setCell (Nat.le_refl _) _⟩, by simp [intOf]; omega⟩
      have := excAt_succ HND.out hlt HM.out j
      by_cases e : j = m
      · rw [if_pos e] at this ⊢; rw [this]
      · rw [if_neg e] at this ⊢; rw [this]
    · have hkl : xs.length = k := by omega
      have HK := Lib.hid hkl
      clear hkl hcell
      go_wp2_with fail
      go_ret
      refine ⟨_, rfl, ?_, hb0⟩
      have hex : (excL xs).length = xs.length := by simp [excL]
      obtain ⟨c, g1, g2, g3⟩ := hrw
      refine ⟨by simp, .inr ⟨w.heap.size, xs.length, c, by rw [hex]; rfl, Nat.le_refl _, g1, by rw [hex]; omega, by simp [maxLen]; omega, by omega, ?_⟩⟩
      rw [Nat.mul_one, hex]
      have hcl : c.toList.length = xs.length := by simpa using g2
      rw [List.take_of_length_le (by omega)]
      refine List.ext_getElem (by simp [hcl, hex]) fun j hj1 hj2 => ?_
      have hj : j < xs.length := by omega
      have hmem : (j : Int) ∈ xs := perm_mem HO.out hj
      have h3 := g3 j hj
      simp only [excAt, ← HK.out, List.take_length, if_pos hmem] at h3
      have h4 : c.toList[j]? = some (.int .i64 ((xs.idxOf (j : Int) : Nat) : Int)) := by simpa using h3
      rw [List.getElem?_eq_getElem hj1] at h4
      rw [Option.some.inj h4]
      simp [excL]
end Go.Proofs.Ytlgonmnbedddaaa
