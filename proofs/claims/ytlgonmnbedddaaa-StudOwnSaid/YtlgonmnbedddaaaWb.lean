/- Walks: roots, powers, logs. -/
import Derived.Test.YtlgonmnbedddaaaWa
set_option linter.unusedVariables false
set_option linter.unusedSimpArgs false
namespace Go.Proofs.Ytlgonmnbedddaaa
open Go.RowKit

/-- the powers 1, .., n of g modulo p -/
def pwL (p g : Int) (n : Nat) : List Int := (List.range n).map fun i => pw p g (i + 1)
theorem pwL_len (p g : Int) (n : Nat) : (pwL p g n).length = n := by simp [pwL]
theorem gi_pwL {p g : Int} {n j : Nat} (h : j < n) : gi (pwL p g n) j = pw p g (j + 1) := by rw [gi_lt (by simpa [pwL_len] using h)]; simp [pwL]
theorem pwA_all {p g : Int} {k : Nat} : ((pwA p g k).all fun x => x.oneCell') = true := by
  rw [Array.all_eq_true]; intro i hi; exact pwA_one trivial
def rootB (p g : Int) : Bool := primeB p && (withinB g 1 (p - 1) && decide (idx (pwL p g (p.toNat - 1)) 1 = p - 2))

theorem reads_arr {w : World} {B : Nat} {p g : Int} {lo n k : Nat} (hk : k = lo + n) (hlo : lo + n ≤ 17) (h0 : 0 < n) (hB : w.heap[B]? = some (.cells (pwA p g k) 77)) (xs : List Int) (hx : xs.length = n) (hxs : ∀ j, j < n → gi xs j = pw p g (lo + j)) :
    Reads w (.slice (some ⟨B, lo, none⟩) n (17 - lo)) xs := by
  subst hk
  refine ⟨_, 17 - lo, by rw [hx], by omega, by simp [maxLen]; omega, .inr ⟨B, lo, rfl, (Array.getElem?_eq_some_iff.1 hB).1, fun j hj => ?_⟩⟩
  rw [cell_of_row _ _ _ _ _ _ hB, pwA_get (by omega), if_pos (by omega), hxs j (by omega)]

set_option maxRecDepth 100000 in
set_option maxHeartbeats 800000 in
theorem isRoot_any (p g : Int) (w : World) (hp : -9223372036854775808 ≤ p ∧ p ≤ 9223372036854775807) :
    Calls Try.prog 43 #[.int .i64 p, .int .i64 g] w fun e w' => e = .returned (.bool (rootB p g)) ∧ Below w.heap.size w w' := by
  obtain ⟨hp1, hp2⟩ := hp
  by_cases h1 : primeB p = true
  · obtain ⟨h3, h17⟩ := primeB_rng h1
    by_cases h2 : withinB g 1 (p - 1) = true
    · obtain ⟨hg1, hg2⟩ := withinB_iff.1 h2
      have H1 := Lib.hid h1
      have H2 := Lib.hid h2
      clear h1 h2
      have hal : Try.prog.arrayLen 77 = 17 := by kernel_rfl
      have h1p : (1 : Int) ≤ p := by omega
      go_enter Try.func43, Try.ntmps43
      go_wp2_with (first
        | (go_at_call 50; refine (isPrime_any _ _ (by omega)).mono ?_; rintro e w' ⟨rfl, rfl⟩; rw [H1.out])
        | (go_at_call 17; refine (within_any _ _ _ _).mono ?_; rintro e w' ⟨rfl, rfl⟩; rw [H2.out])
        | (go_at_call 45; refine (index_any _ (pwL p g (p.toNat - 1)) 1 _ (reads_arr (p := p) (g := g) (n := p.toNat - 1) (k := p.toNat) (by omega) (by omega) (by omega) (setRow_heap _ _ _ _ _ _ (heap_alloc_new _ _)) _ (pwL_len _ _ _) (fun j hj => by rw [gi_pwL hj, Nat.add_comm]))).mono ?_; rintro e w' ⟨rfl, rfl⟩)
        | (go_at_call 44; refine (powers_any p g _ (by omega) (by omega) (by omega) (by omega)).mono ?_; rintro e w1 ⟨rfl, hb⟩)
        | (refine wpList_store_row rfl 77 _ _ rfl w1.heap.size (pwA p g p.toNat) rfl rfl 77 _ (heap_alloc_new _ _) ?g2 ?g3 ?g4 ?_))
      case g2 => simpa [pwA_size] using info_arr17
      case g3 => simp [pwA_size]
      case g4 => exact pwA_all
      go_ret
      refine ⟨ret_bool (by unfold rootB; rw [H1.out, H2.out]; simp only [Bool.true_and]; rfl), ?_⟩
      exact below_setRow ((hb.alloc (hb.size) _)) hb.size _
    · have h2' : withinB g 1 (p - 1) = false := by simpa using h2
      have H1 := Lib.hid h1
      have H2 := Lib.hid h2'
      clear h1 h2 h2'
      go_enter Try.func43, Try.ntmps43
      go_wp2_with (first
        | (go_at_call 50; refine (isPrime_any _ _ (by omega)).mono ?_; rintro e w' ⟨rfl, rfl⟩; rw [H1.out])
        | (go_at_call 17; refine (within_any _ _ _ _).mono ?_; rintro e w' ⟨rfl, rfl⟩; rw [H2.out]))
      go_ret
      exact ⟨ret_bool (by unfold rootB; rw [H1.out, H2.out]; rfl), Below.refl _ _⟩
  · have h1' : primeB p = false := by simpa using h1
    have H1 := Lib.hid h1'
    clear h1 h1'
    go_enter Try.func43, Try.ntmps43
    go_wp2_with (first
      | (go_at_call 50; refine (isPrime_any _ _ (by omega)).mono ?_; rintro e w' ⟨rfl, rfl⟩; rw [H1.out]))
    go_ret
    exact ⟨ret_bool (by unfold rootB; rw [H1.out]; rfl), Below.refl _ _⟩

/-- a call returns a new slice of ints, and an error code -/
def RetInts (w : World) (xs : List Int) (err : Int) (e : Ending) (w' : World) : Prop :=
  ∃ v, e = .returned (.tuple #[v, .int .i64 err]) ∧ Col w w' v xs

theorem RetInts.err (w : World) (err : Int) : RetInts w [] err (.returned (.tuple #[.slice none 0 0, .int .i64 err])) w := ⟨_, rfl, Col.nil w⟩
theorem RetInts.err' {w w' : World} (err : Int) (hb : Below w.heap.size w w') : RetInts w [] err (.returned (.tuple #[.slice none 0 0, .int .i64 err])) w' := ⟨_, rfl, World.ownsRow_nil _ _ _ _, hb⟩

def powersL (p g s : Int) (n : Nat) : List Int := (List.range n).map fun (i : Nat) => pw p g (((i : Int) + s) % (p - 1)).toNat - 1
theorem powersL_succ (p g s : Int) (n : Nat) : powersL p g s (n + 1) = powersL p g s n ++ [pw p g (((n : Int) + s) % (p - 1)).toNat - 1] := by simp [powersL, List.range_succ]
theorem powersL_len (p g s : Int) (n : Nat) : (powersL p g s n).length = n := by simp [powersL]

set_option maxRecDepth 100000 in
set_option maxHeartbeats 800000 in
theorem Powers_ok (p g s : Int) (w : World) (h1 : rootB p g = true) (h2 : withinB s 0 (p - 2) = true) :
    Calls Try.prog 31 #[.int .i64 p, .int .i64 g, .int .i64 s] w (RetInts w (powersL p g s (p.toNat - 1)) 0) := by
  obtain ⟨hs1, hs2⟩ := withinB_iff.1 h2
  have hr : primeB p = true ∧ 1 ≤ g ∧ g ≤ p - 1 := by
    unfold rootB at h1; simp only [Bool.and_eq_true] at h1; exact ⟨h1.1, withinB_iff.1 h1.2.1⟩
  obtain ⟨hp, hg1, hg2⟩ := hr
  obtain ⟨h3, h17⟩ := primeB_rng hp
  have H1 := Lib.hid h1
  have H2 := Lib.hid h2
  clear h1 h2 hp
  go_enter Try.func31, Try.ntmps31
  go_wp2_with (first
    | (go_at_call 43; refine (isRoot_any _ _ _ ⟨by omega, by omega⟩).mono ?_; rintro e w1 ⟨rfl, hb1⟩; rw [H1.out])
    | (go_at_call 17; refine (within_any _ _ _ _).mono ?_; rintro e w' ⟨rfl, rfl⟩; rw [H2.out])
    | (go_at_call 44; refine (powers_any p g _ (by omega) (by omega) (by omega) (by omega)).mono ?_; rintro e w2 ⟨rfl, hb2⟩)
    | (refine wpList_store_row rfl 77 _ _ rfl w2.heap.size (pwA p g p.toNat) rfl rfl 77 _ (heap_alloc_new _ _) ?g2 ?g3 ?g4 ?_))
  case g2 => simpa [pwA_size] using info_arr17
  case g3 => simp [pwA_size]
  case g4 => exact pwA_all
  generalize hW0 : World.setRow (World.alloc w2 _) w2.heap.size (pwA p g p.toNat) = W0
  have hB : W0.heap[w2.heap.size]? = some (.cells (pwA p g p.toNat) 77) := by rw [← hW0]; exact setRow_heap _ _ _ _ _ _ (heap_alloc_new _ _)
  have hb0 : Below w.heap.size w W0 := by
    rw [← hW0]; exact below_setRow ((hb1.trans (hb2.mono hb1.size)).alloc (Nat.le_trans hb1.size hb2.size) _) (Nat.le_trans hb1.size hb2.size) _
  have hlt : w2.heap.size < W0.heap.size := (Array.getElem?_eq_some_iff.1 hB).1
  clear hW0 hb1 hb2
  have HB := Lib.hid hB
  clear hB
  go_loopw [9, 10, 27] (fun v _ i wr => ∃ k : Nat, (k : Int) ≤ p - 1 ∧ i = .int .i64 k ∧ Col W0 wr v (powersL p g s k)) (fun _ _ i _ => (p - intOf i).toNat)
  case atStart => exact ⟨0, by omega, rfl, Col.nil _⟩
  case round =>
    obtain ⟨k, hk, rfl, hcol⟩ := hrel
    by_cases hlt2 : (k : Int) < p - 1
    · have hm1 : 0 ≤ ((k : Int) + s) % (p - 1) := Int.emod_nonneg _ (by omega)
      have hm2 : ((k : Int) + s) % (p - 1) < p - 1 := Int.emod_lt_of_pos _ (by omega)
      have hcell : wr.cell? ⟨w2.heap.size, (((k : Int) + s) % (p - 1)).toNat, none⟩ = some (.int .i64 (pw p g (((k : Int) + s) % (p - 1)).toNat)) := by
        rw [hcol.below.cell (p := ⟨w2.heap.size, _, none⟩) hlt, cell_of_row _ _ _ _ _ _ HB.out, pwA_get (by omega), if_pos (by omega)]
      have hpr := pw_rng (p := p) (g := g) (by omega) (((k : Int) + s) % (p - 1)).toNat
      obtain ⟨hp1, hp2⟩ := hpr
      have hlen := powersL_len p g s k
      have HL := Lib.hid hlen
      clear hlen
      go_wp2_with (at_builtin; refine append_int rfl _ _ rfl hcol rfl _ rfl (by rw [HL.out]; omega) ?_; intro v' w' hcol' hne)
      go_roundw
      case rel => exact ⟨k + 1, by omega, by go_num, by rw [powersL_succ]; exact hcol'⟩
      case measure => simp [intOf]; omega
    · have hkp : p.toNat - 1 = k := by omega
      have HK := Lib.hid hkp
      clear hkp
      go_wp2
      go_ret2
      exact ⟨_, rfl, by rw [HK.out]; exact hcol.lower hb0⟩

theorem Powers_err (p g s : Int) (w : World) (wp : -9223372036854775808 ≤ p ∧ p ≤ 9223372036854775807) (h : (rootB p g && withinB s 0 (p - 2)) = false) :
    Calls Try.prog 31 #[.int .i64 p, .int .i64 g, .int .i64 s] w (RetInts w [] 2) := by
  by_cases h1 : rootB p g = true
  · rw [h1, Bool.true_and] at h
    have hr : primeB p = true := by unfold rootB at h1; simp only [Bool.and_eq_true] at h1; exact h1.1
    obtain ⟨h3, h17⟩ := primeB_rng hr
    have H1 := Lib.hid h1
    have H2 := Lib.hid h
    clear h1 h hr
    go_enter Try.func31, Try.ntmps31
    go_wp2_with (first
      | (go_at_call 43; refine (isRoot_any _ _ _ ⟨by omega, by omega⟩).mono ?_; rintro e w1 ⟨rfl, hb1⟩; rw [H1.out])
      | (go_at_call 17; refine (within_any _ _ _ _).mono ?_; rintro e w' ⟨rfl, rfl⟩; rw [H2.out]))
    go_ret2
    exact RetInts.err' _ hb1
  · have h1' : rootB p g = false := by simpa using h1
    have H1 := Lib.hid h1'
    clear h1 h h1'
    obtain ⟨wp1, wp2⟩ := wp
    go_enter Try.func31, Try.ntmps31
    go_wp2_with (first
      | (go_at_call 43; refine (isRoot_any _ _ _ ⟨by omega, by omega⟩).mono ?_; rintro e w1 ⟨rfl, hb1⟩; rw [H1.out]))
    go_ret2
    exact RetInts.err' _ hb1

/-- what Powers answers -/
def powersS (p g s : Int) : List Int × Int := if rootB p g && withinB s 0 (p - 2) then (powersL p g s (p.toNat - 1), 0) else ([], 2)
theorem Powers_any (p g s : Int) (w : World) (wp : -9223372036854775808 ≤ p ∧ p ≤ 9223372036854775807) :
    Calls Try.prog 31 #[.int .i64 p, .int .i64 g, .int .i64 s] w (RetInts w (powersS p g s).1 (powersS p g s).2) := by
  unfold powersS
  by_cases h : (rootB p g && withinB s 0 (p - 2)) = true
  · rw [if_pos h]
    rw [Bool.and_eq_true] at h
    exact Powers_ok p g s w h.1 h.2
  · rw [if_neg h]
    exact Powers_err p g s w wp (by simpa using h)
end Go.Proofs.Ytlgonmnbedddaaa
