/- First. -/
import Derived.Test.YtlgonmnbedddaaaOMat
import Derived.Test.YtlgonmnbedddaaaWb
set_option linter.unusedVariables false
set_option linter.unusedSimpArgs false
namespace Go.Proofs.Ytlgonmnbedddaaa
open Go.RowKit

/-- the different orders among the first symmetries -/
def distTo (xs : List Int) : Nat → List (List Int)
  | 0 => []
  | s + 1 => if turnL xs s ∈ distTo xs s then distTo xs s else distTo xs s ++ [turnL xs s]
theorem distTo_len (xs : List Int) : ∀ s, (distTo xs s).length ≤ s
  | 0 => by simp [distTo]
  | s + 1 => by
    have := distTo_len xs s
    unfold distTo
    split
    · omega
    · simp; omega
theorem distTo_mem (xs : List Int) : ∀ s ys, ys ∈ distTo xs s ↔ ∃ k, k < s ∧ ys = turnL xs k
  | 0, ys => by simp [distTo]
  | s + 1, ys => by
    unfold distTo
    split
    case isTrue h =>
      rw [distTo_mem xs s]
      constructor
      · rintro ⟨k, hk, rfl⟩; exact ⟨k, by omega, rfl⟩
      · rintro ⟨k, hk, rfl⟩
        by_cases e : k = s
        · subst e; exact (distTo_mem xs k _).1 h
        · exact ⟨k, by omega, rfl⟩
    case isFalse h =>
      rw [List.mem_append, distTo_mem xs s, List.mem_singleton]
      constructor
      · rintro (⟨k, hk, rfl⟩ | rfl)
        · exact ⟨k, by omega, rfl⟩
        · exact ⟨s, by omega, rfl⟩
      · rintro ⟨k, hk, rfl⟩
        by_cases e : k = s
        · subst e; exact .inr rfl
        · exact .inl ⟨k, by omega, rfl⟩
theorem distTo_pos (xs : List Int) (s : Nat) : 0 < (distTo xs (s + 1)).length := by
  have h : turnL xs 0 ∈ distTo xs (s + 1) := (distTo_mem xs _ _).2 ⟨0, by omega, rfl⟩
  exact List.length_pos_of_mem h
theorem turn_len (xs : List Int) (s : Nat) : (turnL xs s).length = xs.length := len_stage xs s 3
theorem distTo_each (xs : List Int) (s : Nat) : ∀ k, k < (distTo xs s).length → ((distTo xs s).getD k []).length = xs.length := by
  intro k hk
  have hm : (distTo xs s).getD k [] ∈ distTo xs s := by rw [List.getD_eq_getElem?_getD, List.getElem?_eq_getElem hk]; exact List.getElem_mem _
  obtain ⟨j, _, e⟩ := (distTo_mem xs s _).1 hm
  rw [e]; exact turn_len xs j
def firstL (xs : List Int) : List Int := minTo (distTo xs 8) ((distTo xs 8).length - 1)
theorem firstL_len (xs : List Int) : (firstL xs).length = xs.length := minTo_len (distTo_each xs 8) _ (Nat.sub_lt (distTo_pos xs 7) Nat.one_pos)

set_option maxRecDepth 100000 in
set_option maxHeartbeats 1600000 in
theorem First_ok (v : Value) (xs : List Int) (w : World) (hr : OwnRow 0 w v xs) (ho : ordB xs = true) :
    Calls Try.prog 8 #[v] w fun e w' => ∃ v', e = .returned (.tuple #[v', .int .i64 ((distTo xs 8).length : Nat), .int .i64 0]) ∧ Col w w' v' (firstL xs) := by
  have HO := Lib.hid ho
  obtain ⟨hl1, hl2⟩ := ordB_len ho
  obtain ⟨va, vl, vc, rfl⟩ := hr.slice
  clear ho
  go_enter Try.func8, Try.ntmps8
  go_wp2_with fail
  refine (isOrder_any _ _ _ hr.reads).mono ?_
  rintro e w' ⟨rfl, rfl⟩
  rw [HO.out]
  go_wp2_with fail
  go_loopw [5, 14] (fun v i wr => ∃ s : Nat, s ≤ 8 ∧ i = .int .i64 s ∧ OCol w wr v (distTo xs s) ∧ OwnRow 0 wr (.slice va vl vc) xs) (fun _ i _ => 8 - (intOf i).toNat)
  case atStart => exact ⟨0, by omega, rfl, OCol.nil _, hr⟩
  case round =>
    obtain ⟨s, hs, rfl, hcol, hrow⟩ := hrel
    have hdl := distTo_len xs s
    by_cases hlt : s < 8
    · have s1 : (s : Int) < 8 := by omega
      obtain ⟨aa, ac, rfl, _, _, _⟩ := hcol.open
      have HC := Lib.hid hcol
      have HR := Lib.hid hrow
      clear hcol hrow
      go_wp2_with fail
      refine (turned_own _ xs s _ HR.out HO.out (by omega)).mono ?_
      rintro e w1 ⟨v1, rfl, hv1, hb1⟩
      obtain ⟨ta, tl, tc, rfl⟩ := hv1.slice
      go_wp2_with fail
      have hal : Below w1.heap.size w1 (w1.alloc (.cells #[.slice ta tl tc] 48)) := (Below.refl _ _).alloc (Nat.le_refl _) _
      have hB := heap_alloc_new w1 (.cells #[.slice ta tl tc] 48)
      have hc1 := (HC.out.step hb1).step hal
      have hv2 := hv1.below hal
      have hr2 := (HR.out.below hb1).below hal
      have hlt1 := heap_lt hB
      generalize hW1 : w1.heap.size = B at *
      generalize hW : World.alloc w1 _ = W1 at *
      clear hW hW1 hal hb1 hv1
      refine (containsOO_any _ _ _ (turnL xs s) B w _ hc1 hv2.reads (fun k hk => (distTo_each xs s k hk).trans (turn_len xs s).symm) hB).mono ?_
      rintro e w2 ⟨rfl, m, rfl⟩
      have hdr := below_drewN W1 m
      have hc2 := hc1.step hdr
      have hv3 := hv2.below hdr
      have hr3 := hr2.below hdr
      have hB3 := (hdr.block _ hlt1).trans hB
      generalize World.drewN W1 m = W2 at *
      clear hc1 hv2 hr2 hB hdr hlt1
      by_cases hin : turnL xs s ∈ distTo xs s
      · have hde : distTo xs (s + 1) = distTo xs s := by rw [distTo, if_pos hin]
        rw [decide_eq_true hin]
        have HD := Lib.hid hde
        clear hin hde
        go_wp2_with fail
        go_roundw
        case rel => exact ⟨s + 1, by omega, by go_num, by rw [HD.out]; exact hc2, hr3⟩
        case measure => simp [intOf]; omega
      · have hde : distTo xs (s + 1) = distTo xs s ++ [turnL xs s] := by rw [distTo, if_neg hin]
        rw [decide_eq_false hin]
        have HD := Lib.hid hde
        have HL : Hid ((distTo xs s).length ≤ 1000000000) := Lib.hid (by omega)
        have HC2 := Lib.hid hc2
        have HV3 := Lib.hid hv3
        have HR3 := Lib.hid hr3
        have c0 := cell_of hB3 (j := 0) rfl
        clear hin hde hc2 hv3 hr3 hB3
        go_wp2_with (at_builtin; refine append_order rfl _ _ rfl HC2.out HV3.out HR3.out rfl rfl HL.out ?_; intro v' w' hcol' hrow')
        go_roundw
        case rel => exact ⟨s + 1, by omega, by go_num, by rw [HD.out]; exact hcol', hrow'⟩
        case measure => simp [intOf]; omega
    · obtain rfl : s = 8 := by omega
      obtain ⟨aa, ac, rfl, _, _, _⟩ := hcol.open
      have HC := Lib.hid hcol
      clear hcol
      go_wp2_with fail
      refine (minOO_any _ _ xs.length w _ HC.out (distTo_each xs 8) (distTo_pos xs 7)).mono ?_
      rintro e w2 ⟨r, rfl, hmin, rfl⟩
      go_wp2_with fail
      refine (cloneO_any _ _ _ hmin.reads (by have := firstL_len xs; unfold firstL at this; omega)).mono ?_
      rintro e w3 ⟨v3, rfl, hcol3⟩
      obtain ⟨ca, cl, cc, rfl⟩ := hcol3.slice
      go_wp2_with fail
      go_ret3
      exact ⟨_, rfl, hcol3.lower HC.out.below⟩

def firstS (xs : List Int) : List Int × Int × Int := if ordB xs then (firstL xs, (((distTo xs 8).length : Nat) : Int), 0) else ([], 0, 2)
theorem First_any (v : Value) (xs : List Int) (w : World) (hr : OwnRow 0 w v xs) :
    Calls Try.prog 8 #[v] w fun e w' => ∃ v', e = .returned (.tuple #[v', .int .i64 (firstS xs).2.1, .int .i64 (firstS xs).2.2]) ∧ Col w w' v' (firstS xs).1 := by
  rcases ho : ordB xs with _ | _
  · have hf : firstS xs = ([], 0, 2) := by unfold firstS; rw [ho]; rfl
    rw [hf]
    dsimp only
    have HO := Lib.hid ho
    obtain ⟨va, vl, vc, rfl⟩ := hr.slice
    clear ho hf
    go_enter Try.func8, Try.ntmps8
    go_wp2_with fail
    refine (isOrder_any _ _ _ hr.reads).mono ?_
    rintro e w' ⟨rfl, rfl⟩
    rw [HO.out]
    go_wp2_with fail
    go_ret3
    exact ⟨_, rfl, Col.nil _⟩
  · have hf : firstS xs = (firstL xs, (((distTo xs 8).length : Nat) : Int), 0) := by unfold firstS; rw [ho]; rfl
    rw [hf]
    dsimp only
    exact First_ok v xs w hr ho
end Go.Proofs.Ytlgonmnbedddaaa
