/- Logs answers the matches of each power. -/
import Derived.Test.YtlgonmnbedddaaaWb
import Derived.Deep.RegionHeld3
import Derived.Deep.AppendLies
set_option linter.unusedVariables false
set_option linter.unusedSimpArgs false
namespace Go.Proofs.Ytlgonmnbedddaaa
open Go.RowKit

def logAt (p g h : Int) (i : Nat) : Int := idx ((List.range (p.toNat - 1)).map fun j => pw p h j) ((p + 1 - pw p g i) % p) - 1
def logsL (p g h : Int) (n : Nat) : List Int := (List.range n).map fun i => logAt p g h (i + 1)
theorem logsL_succ (p g h : Int) (n : Nat) : logsL p g h (n + 1) = logsL p g h n ++ [logAt p g h (n + 1)] := by simp [logsL, List.range_succ]
theorem logsL_len (p g h : Int) (n : Nat) : (logsL p g h n).length = n := by simp [logsL]
theorem rootB_prime {p g : Int} (h1 : rootB p g = true) : primeB p = true ∧ 1 ≤ g ∧ g ≤ p - 1 := by
  unfold rootB at h1; simp only [Bool.and_eq_true] at h1; exact ⟨h1.1, withinB_iff.1 h1.2.1⟩

theorem zeros17 (p g : Int) : (#[.int .i64 0, .int .i64 0, .int .i64 0, .int .i64 0, .int .i64 0, .int .i64 0, .int .i64 0, .int .i64 0, .int .i64 0, .int .i64 0, .int .i64 0, .int .i64 0, .int .i64 0, .int .i64 0, .int .i64 0, .int .i64 0, .int .i64 0] : Array Value) = pwA p g 0 := rfl

set_option maxRecDepth 100000 in
set_option maxHeartbeats 1600000 in
theorem Logs_ok (p g h : Int) (w : World) (h1 : rootB p g = true) (h2 : rootB p h = true) :
    Calls Try.prog 32 #[.int .i64 p, .int .i64 g, .int .i64 h] w (RetInts w (logsL p g h (p.toNat - 2)) 0) := by
  obtain ⟨hp, hg1, hg2⟩ := rootB_prime h1
  obtain ⟨_, hh1, hh2⟩ := rootB_prime h2
  obtain ⟨h3, h17⟩ := primeB_rng hp
  have H1 := Lib.hid h1
  have H2 := Lib.hid h2
  clear h1 h2 hp
  go_enter Try.func32, Try.ntmps32
  go_wp2_with fail
  refine (isRoot_any _ _ _ ⟨by omega, by omega⟩).mono ?_; rintro e w1 ⟨rfl, hb1⟩; rw [H1.out]
  go_wp2_with fail
  refine (isRoot_any _ _ _ ⟨by omega, by omega⟩).mono ?_; rintro e w2 ⟨rfl, hb2⟩; rw [H2.out]
  go_wp2_with fail
  refine (powers_any _ _ _ (by omega) (by omega) (by omega) (by omega)).mono ?_; rintro e w3 ⟨rfl, hb3⟩
  go_wp2_with fail
  refine (powers_any _ _ _ (by omega) (by omega) (by omega) (by omega)).mono ?_; rintro e w4 ⟨rfl, hb4⟩
  go_wp2_with (first
    | (refine wpList_store_row rfl 77 (.tmp 8) _ rfl w4.heap.size (pwA p g p.toNat) rfl rfl 77 (pwA p g 0) ?g1 ?g2 ?g3 ?g4 ?_)
    | (refine wpList_store_row rfl 77 (.tmp 9) _ rfl (w4.heap.size + 1) (pwA p h p.toNat) rfl rfl 77 (pwA p g 0) ?f1 ?f2 ?f3 ?f4 ?_))
  case g1 => rw [heap_alloc_lt _ _ _ (by simp)]; rw [heap_alloc_new, zeros17 p g]
  case f1 => rw [setRow_other _ _ _ _ (by omega), heap_alloc_at _ _ _ (by simp), zeros17 p g]
  case g2 => simpa [pwA_size] using info_arr17
  case g3 => simp [pwA_size]
  case g4 => exact pwA_all
  case f2 => simpa [pwA_size] using info_arr17
  case f3 => simp [pwA_size]
  case f4 => exact pwA_all
  generalize hW0 : World.setRow (World.setRow _ _ _) (w4.heap.size + 1) (pwA p h p.toNat) = W0
  have hX : W0.heap[w4.heap.size]? = some (.cells (pwA p g p.toNat) 77) := by
    rw [← hW0, setRow_other _ _ _ _ (by omega)]
    exact setRow_heap _ _ _ _ _ _ (by rw [heap_alloc_lt _ _ _ (by simp)]; exact heap_alloc_new _ _)
  have hY : W0.heap[w4.heap.size + 1]? = some (.cells (pwA p h p.toNat) 77) := by
    rw [← hW0]; exact setRow_heap _ _ _ _ _ _ (by rw [setRow_other _ _ _ _ (by omega)]; exact heap_alloc_at _ _ _ (by simp))
  have hb14 : Below w.heap.size w w4 := by
    have hs2 := hb1.size; have hs3 := hb2.size; have hs4 := hb3.size
    exact ((hb1.trans (hb2.mono (by omega))).trans (hb3.mono (by omega))).trans (hb4.mono (by omega))
  have hb0 : Below w.heap.size w W0 := by
    have := hb14.size
    rw [← hW0]; exact below_setRow (below_setRow ((hb14.alloc hb14.size _).alloc (by simp; omega) _) hb14.size _) (by omega) _
  have hlt : w4.heap.size + 1 < W0.heap.size := (Array.getElem?_eq_some_iff.1 hY).1
  clear hW0 hb1 hb2 hb3 hb4 hb14
  have HX := Lib.hid hX
  have HY := Lib.hid hY
  clear hX hY
  go_loopw [10, 11] (fun v i wr => ∃ k : Nat, (k : Int) ≤ p - 2 ∧ i = .int .i64 ((k : Int) + 1) ∧ Col W0 wr v (logsL p g h k)) (fun _ i _ => (p - intOf i).toNat)
  case atStart => exact ⟨0, by omega, rfl, Col.nil _⟩
  case round =>
    obtain ⟨k, hk, rfl, hcol⟩ := hrel
    by_cases hlt2 : (k : Int) < p - 2
    · have hcell : wr.cell? ⟨w4.heap.size, k + 1, none⟩ = some (.int .i64 (pw p g (k + 1))) := by
        rw [hcol.below.cell (p := ⟨w4.heap.size, _, none⟩) (by simp; omega), cell_of_row _ _ _ _ _ _ HX.out, pwA_get (by omega), if_pos (by omega)]
      have hcell0 := Lib.hid ((hcol.below.cell (p := ⟨w4.heap.size, k + 1, none⟩) (by simp; omega)).symm.trans hcell)
      have hlt1 : w4.heap.size < W0.heap.size := by omega
      have hpr := pw_rng (p := p) (g := g) (by omega) (k + 1)
      obtain ⟨hp1, hp2⟩ := hpr
      have hm1 : 0 ≤ (p + 1 - pw p g (k + 1)) % p := Int.emod_nonneg _ (by omega)
      have hm2 : (p + 1 - pw p g (k + 1)) % p < p := Int.emod_lt_of_pos _ (by omega)
      have hal : Try.prog.arrayLen 77 = 17 := by kernel_rfl
      have hrd : Reads wr (.slice (some ⟨w4.heap.size + 1, 0, none⟩) (p.toNat - 1) 17) ((List.range (p.toNat - 1)).map fun j => pw p h j) := by
        refine Reads.below (w := W0) ?_ hcol.below
        refine ⟨_, 17, by simp, by simp; omega, by simp [maxLen], .inr ⟨w4.heap.size + 1, 0, rfl, hlt, fun j hj => ?_⟩⟩
        have hj' : j < p.toNat - 1 := by simpa using hj
        rw [Nat.zero_add, cell_of_row _ _ _ _ _ _ HY.out, pwA_get (by omega), if_pos (by omega), gi_lt hj]
        simp
      have HL := Lib.hid (logsL_len p g h k)
      have HC := Lib.hid hcol
      clear hcol
      have e1 : IntKind.i64.wrap (p - 1) = p - 1 := IntWalk.i64_in _ (by omega)
      have e2 : IntKind.i64.wrap (p + 1) = p + 1 := IntWalk.i64_in _ (by omega)
      have e3 : IntKind.i64.wrap (p + 1 - pw p g (k + 1)) = p + 1 - pw p g (k + 1) := IntWalk.i64_in _ (by omega)
      have e4 : (p + 1 - pw p g (k + 1)).tmod p = (p + 1 - pw p g (k + 1)) % p := Int.tmod_eq_emod_of_nonneg (by omega)
      have e5 : IntKind.i64.wrap (idx ((List.range (p.toNat - 1)).map fun j => pw p h j) ((p + 1 - pw p g (k + 1)) % p) - 1) = logAt p g h (k + 1) := by
        have := idx_rng ((List.range (p.toNat - 1)).map fun j => pw p h j) ((p + 1 - pw p g (k + 1)) % p)
        simp only [List.length_map, List.length_range] at this
        exact IntWalk.i64_in _ (by omega)
      have e6 : ((k : Int) + 1).toNat = k + 1 := by omega
      have e7 : (p - 1).toNat = p.toNat - 1 := by omega
      have b1 : (0 : Int) ≤ (k : Int) + 1 := by omega
      have b2 : (k : Int) + 1 < 17 := by omega
      have b3 : (0 : Int) ≤ p - 1 := by omega
      have b4 : p - 1 ≤ 17 := by omega
      have b5 : (1 : Int) ≤ p := by omega
      have b6 : p ≤ 18 := by omega
      have b7 : ¬ p = 0 := by omega
      go_wp2_with fail
      go_region_held3 (fun w' => w'.cell? ⟨w4.heap.size, k + 1, none⟩ = some (.int .i64 (pw p g (k + 1))))
        (first | go_keep | (rw [hcol'.below.cell (p := ⟨w4.heap.size, k + 1, none⟩) hlt1]; exact hcell0.out))
        (first
          | (go_at_call 45; refine (index_any _ ((List.range (p.toNat - 1)).map fun j => pw p h j) _ _ (hrd.below (Below.refl _ _).drew)).mono ?_; rintro e w' ⟨rfl, rfl⟩)
          | (refine step_append_int rfl _ _ rfl HC.out rfl _ rfl (by rw [HL.out]; omega) ?_; intro v' w' hcol' hne))
      go_wp2
      go_roundw
      case rel => exact ⟨k + 1, by omega, by go_num, by rw [logsL_succ]; exact hcol'⟩
      case measure => simp [intOf]; omega
    · have hkp : p.toNat - 2 = k := by omega
      have HK := Lib.hid hkp
      clear hkp
      go_wp2
      go_ret2
      exact ⟨_, rfl, by rw [HK.out]; exact hcol.lower hb0⟩

theorem Logs_err (p g h : Int) (w : World) (wp : -9223372036854775808 ≤ p ∧ p ≤ 9223372036854775807) (hn : (rootB p g && rootB p h) = false) :
    Calls Try.prog 32 #[.int .i64 p, .int .i64 g, .int .i64 h] w (RetInts w [] 2) := by
  obtain ⟨wp1, wp2⟩ := wp
  by_cases h1 : rootB p g = true
  · rw [h1, Bool.true_and] at hn
    have H1 := Lib.hid h1
    have H2 := Lib.hid hn
    clear h1 hn
    go_enter Try.func32, Try.ntmps32
    go_wp2_with fail
    refine (isRoot_any _ _ _ ⟨by omega, by omega⟩).mono ?_; rintro e w1 ⟨rfl, hb1⟩; rw [H1.out]
    go_wp2_with fail
    refine (isRoot_any _ _ _ ⟨by omega, by omega⟩).mono ?_; rintro e w2 ⟨rfl, hb2⟩; rw [H2.out]
    go_wp2_with fail
    go_ret2
    exact RetInts.err' _ (hb1.trans (hb2.mono hb1.size))
  · have h1' : rootB p g = false := by simpa using h1
    have H1 := Lib.hid h1'
    clear h1 hn h1'
    go_enter Try.func32, Try.ntmps32
    go_wp2_with fail
    refine (isRoot_any _ _ _ ⟨by omega, by omega⟩).mono ?_; rintro e w1 ⟨rfl, hb1⟩; rw [H1.out]
    go_wp2_with fail
    go_ret2
    exact RetInts.err' _ hb1

def logsS (p g h : Int) : List Int × Int := if rootB p g && rootB p h then (logsL p g h (p.toNat - 2), 0) else ([], 2)
theorem Logs_any (p g h : Int) (w : World) (wp : -9223372036854775808 ≤ p ∧ p ≤ 9223372036854775807) :
    Calls Try.prog 32 #[.int .i64 p, .int .i64 g, .int .i64 h] w (RetInts w (logsS p g h).1 (logsS p g h).2) := by
  unfold logsS
  by_cases hc : (rootB p g && rootB p h) = true
  · rw [if_pos hc]
    rw [Bool.and_eq_true] at hc
    exact Logs_ok p g h w hc.1 hc.2
  · rw [if_neg hc]
    exact Logs_err p g h w wp (by simpa using hc)

/-! ### Roots -/
end Go.Proofs.Ytlgonmnbedddaaa
