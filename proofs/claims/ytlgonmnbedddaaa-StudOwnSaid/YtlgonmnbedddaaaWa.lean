/- Walks of the small functions of the program and of the library that they call. -/
import Derived.Test.YtlgonmnbedddaaaBase
set_option linter.unusedVariables false
set_option linter.unusedSimpArgs false
namespace Go.Proofs.Ytlgonmnbedddaaa
open Go.RowKit

def withinB (n lo hi : Int) : Bool := decide (lo ≤ n) && decide (n ≤ hi)
theorem withinB_iff {n lo hi : Int} : withinB n lo hi = true ↔ lo ≤ n ∧ n ≤ hi := by simp [withinB]

theorem within_any (n lo hi : Int) (w : World) :
    Calls Try.prog 17 #[.int .i64 n, .int .i64 lo, .int .i64 hi] w fun e w' => e = .returned (.bool (withinB n lo hi)) ∧ w = w' := by
  by_cases h : lo ≤ n
  all_goals
    go_enter Try.func17, Try.ntmps17
    go_wp2
    go_ret
    exact ⟨ret_bool (by unfold withinB; simp; try omega), rfl⟩

theorem mem_take_succ {xs : List Int} {k : Nat} (hk : k < xs.length) {x : Int} : x ∈ xs.take (k + 1) ↔ x ∈ xs.take k ∨ gi xs k = x := by
  rw [List.take_succ_eq_append_getElem hk]
  simp only [List.mem_append, List.mem_singleton, gi_lt hk]
  exact ⟨fun h => h.imp id Eq.symm, fun h => h.imp id Eq.symm⟩

set_option maxHeartbeats 400000 in
theorem index_any (v : Value) (xs : List Int) (x : Int) (w : World) (hr : Reads w v xs) :
    Calls Try.prog 45 #[v, .int .i64 x] w fun e w' => e = .returned (.int .i64 (idx xs x)) ∧ w = w' := by
  obtain ⟨a, cap, rfl, h1, h2, hcell⟩ := hr.open
  have h3 : xs.length ≤ 9223372036854775807 := by unfold maxLen at h2; omega
  clear h2 hr h1
  go_enter Try.func45, Try.ntmps45
  go_wp2
  go_loop [5, 8] (fun i k => ∃ n : Nat, n ≤ xs.length ∧ k = .int .i64 n ∧ x ∉ xs.take n) (fun _ k => xs.length - (intOf k).toNat)
  case atStart => exact ⟨0, Nat.zero_le _, rfl, by simp⟩
  case round =>
    obtain ⟨k, hk, rfl, hn⟩ := hrel
    by_cases hlt : k < xs.length
    · obtain ⟨b, off, rfl, hb, hc⟩ := hcell k hlt
      clear hcell
      have hn' := hn
      clear hn
      by_cases he : x = gi xs k
      · have HE : Hid (gi xs k = x) := he.symm
        have he2 : (x == gi xs k) = true := by simpa using he
        clear he
        go_wp2
        go_ret
        exact ⟨ret_int (idx_at hlt HE.out hn').symm, rfl⟩
      · have he2 : (x == gi xs k) = false := by simpa using he
        go_wp2
        go_round
        case rel => exact ⟨k + 1, by omega, by go_num, by rw [mem_take_succ hlt]; rintro (h | h); exact hn' h; exact he h.symm⟩
        case measure => simp [intOf]; omega
    · go_wp2
      go_ret
      exact ⟨ret_int (by rw [idx_no]; rwa [List.take_of_length_le (by omega)] at hn), rfl⟩

theorem contains_any (v : Value) (xs : List Int) (x : Int) (w : World) (hr : Reads w v xs) :
    Calls Try.prog 34 #[v, .int .i64 x] w fun e w' => e = .returned (.bool (decide (x ∈ xs))) ∧ w = w' := by
  go_enter Try.func34, Try.ntmps34
  go_wp2_with (go_at_call 45; refine (index_any _ xs x _ hr).mono ?_; rintro e w' ⟨rfl, rfl⟩)
  go_ret
  exact ⟨ret_bool (by
    by_cases h : x ∈ xs
    · simp [idx, h]
    · simp [idx, h]), rfl⟩

theorem contains_yes (v : Value) (xs : List Int) (x : Int) (w : World) (hr : Reads w v xs) (hm : x ∈ xs) :
    Calls Try.prog 34 #[v, .int .i64 x] w fun e w' => e = .returned (.bool true) ∧ w = w' :=
  (contains_any v xs x w hr).mono fun e w' h => ⟨by rw [h.1]; simp [hm], h.2⟩
theorem contains_no (v : Value) (xs : List Int) (x : Int) (w : World) (hr : Reads w v xs) (hm : x ∉ xs) :
    Calls Try.prog 34 #[v, .int .i64 x] w fun e w' => e = .returned (.bool false) ∧ w = w' :=
  (contains_any v xs x w hr).mono fun e w' h => ⟨by rw [h.1]; simp [hm], h.2⟩

/-! ### primes and powers -/
def primeB (p : Int) : Bool := decide (p ∈ ([3, 5, 7, 11, 13, 17] : List Int))
theorem primeB_cases {p : Int} (h : primeB p = true) : p = 3 ∨ p = 5 ∨ p = 7 ∨ p = 11 ∨ p = 13 ∨ p = 17 := by simpa [primeB] using h
theorem primeB_rng {p : Int} (h : primeB p = true) : 3 ≤ p ∧ p ≤ 17 := by rcases primeB_cases h with h | h | h | h | h | h <;> omega
theorem primeB_div {p : Int} {k : Int} (h1 : 2 ≤ k) (h2 : k < p) (h3 : p % k = 0) : primeB p = false := by
  rcases hb : primeB p with _ | _
  · rfl
  · exfalso
    have hr := primeB_rng hb
    have hk : k = 2 ∨ k = 3 ∨ k = 4 ∨ k = 5 ∨ k = 6 ∨ k = 7 ∨ k = 8 ∨ k = 9 ∨ k = 10 ∨ k = 11 ∨ k = 12 ∨ k = 13 ∨ k = 14 ∨ k = 15 ∨ k = 16 := by omega
    rcases primeB_cases hb with h | h | h | h | h | h <;> subst h <;>
      rcases hk with h | h | h | h | h | h | h | h | h | h | h | h | h | h | h <;> subst h <;> omega
theorem primeB_end {p : Int} (h1 : 3 ≤ p) (h2 : p ≤ 17) (h : ∀ j : Int, 2 ≤ j → j < p → p % j ≠ 0) : primeB p = true := by
  have hp : p = 3 ∨ p = 4 ∨ p = 5 ∨ p = 6 ∨ p = 7 ∨ p = 8 ∨ p = 9 ∨ p = 10 ∨ p = 11 ∨ p = 12 ∨ p = 13 ∨ p = 14 ∨ p = 15 ∨ p = 16 ∨ p = 17 := by omega
  rcases hp with e | e | e | e | e | e | e | e | e | e | e | e | e | e | e <;> subst e <;> first
    | rfl
    | exact absurd (by decide) (h 2 (by omega) (by omega))
    | exact absurd (by decide) (h 3 (by omega) (by omega))

set_option maxHeartbeats 400000 in
theorem isPrime_any (p : Int) (w : World) (hp : p ≤ 9223372036854775807) :
    Calls Try.prog 50 #[.int .i64 p] w fun e w' => e = .returned (.bool (primeB p)) ∧ w = w' := by
  go_enter Try.func50, Try.ntmps50
  go_wp2_with fail
  go_loop [3] (fun k => ∃ n : Nat, 2 ≤ n ∧ ((n : Int) ≤ p ∨ n = 2) ∧ k = .int .i64 n ∧ ∀ j : Int, 2 ≤ j → j < n → p % j ≠ 0) (fun k => (p - intOf k).toNat)
  case atStart => exact ⟨2, by omega, .inr rfl, rfl, by omega⟩
  case round =>
    obtain ⟨k, hk2, hk, rfl, hn⟩ := hrel
    have HN := Lib.hid hn
    clear hn
    by_cases h1 : (k : Int) < p
    · by_cases h2 : p ≤ 17
      · by_cases h3 : p % (k : Int) = 0
        · have h4 : (p % (k : Int) == 0) = true := by simpa using h3
          have H3 := Lib.hid h3
          clear h3 hk
          go_wp2_with fail
          go_ret
          exact ⟨ret_bool (primeB_div (by omega) h1 H3.out).symm, rfl⟩
        · have h4 : (p % (k : Int) == 0) = false := by simpa using h3
          have H3 := Lib.hid h3
          clear h3 hk
          go_wp2_with fail
          go_round
          case rel => exact ⟨k + 1, by omega, .inl (by omega), by go_num, by
            intro j h5 h6
            by_cases e : j = k
            · subst e; exact H3.out
            · exact HN.out j h5 (by omega)⟩
          case measure => simp [intOf]; omega
      · go_wp2_with (go_at_call 17; refine (within_any _ _ _ _).mono ?_; rintro e w' ⟨rfl, rfl⟩)
        go_ret
        refine ⟨ret_bool ?_, rfl⟩
        rcases hb : primeB p with _ | _
        · simp [withinB]; omega
        · have := (primeB_rng hb).2; omega
    · clear hk
      go_wp2_with (go_at_call 17; refine (within_any _ _ _ _).mono ?_; rintro e w' ⟨rfl, rfl⟩)
      go_ret
      refine ⟨ret_bool ?_, rfl⟩
      by_cases h3 : 3 ≤ p ∧ p ≤ 17
      · rw [primeB_end h3.1 h3.2 (fun j h5 h6 => HN.out j h5 (by omega))]; simp [withinB]; omega
      · rcases hb : primeB p with _ | _
        · simp [withinB]; omega
        · exact absurd (primeB_rng hb) (by omega)

/-- the powers of g modulo p -/
def pw (p g : Int) : Nat → Int
  | 0 => 1
  | k + 1 => pw p g k * g % p
theorem pw_rng {p g : Int} (hp : 2 ≤ p) : ∀ k, 0 ≤ pw p g k ∧ pw p g k < p
  | 0 => by simp [pw]; omega
  | k + 1 => by
    simp only [pw]
    exact ⟨Int.emod_nonneg _ (by omega), Int.emod_lt_of_pos _ (by omega)⟩
/-- the array of the first k powers -/
def pwA (p g : Int) (k : Nat) : Array Value := ((List.range 17).map fun j => Value.int .i64 (if j < k then pw p g j else 0)).toArray
theorem pwA_size (p g : Int) (k : Nat) : (pwA p g k).size = 17 := by simp [pwA]
theorem pwA_get {p g : Int} {k j : Nat} (hj : j < 17) : (pwA p g k)[j]? = some (.int .i64 (if j < k then pw p g j else 0)) := by simp [pwA, hj]
theorem pwA_set {p g : Int} {k : Nat} : (pwA p g k).setIfInBounds k (.int .i64 (pw p g k)) = pwA p g (k + 1) := by
  apply Array.ext_getElem?
  intro j
  rw [Array.getElem?_setIfInBounds]
  by_cases hj : j < 17
  · rw [pwA_get hj, pwA_get hj, pwA_size]
    by_cases e : k = j
    · subst e; simp [hj]
    · rw [if_neg e]
      congr 2
      by_cases h : j < k
      · rw [if_pos h, if_pos (by omega)]
      · rw [if_neg h, if_neg (by omega)]
  · rw [Array.getElem?_eq_none (by rw [pwA_size]; omega), Array.getElem?_eq_none (by rw [pwA_size]; omega), pwA_size]
    split
    · rw [if_neg (by omega)]
    · rfl

theorem pwA_one {p g : Int} {k i : Nat} {h : i < (pwA p g k).size} : ∀ (_ : True), (pwA p g k)[i].oneCell' = true := by
  intro _
  have h' : i < 17 := by simpa [pwA_size] using h
  simp [pwA, Value.oneCell']
theorem info_arr17 : (Try.prog.info? 77).map (·.size) = some 17 := by kernel_rfl

set_option maxHeartbeats 400000 in
theorem powers_any (p g : Int) (w : World) (h0 : 0 ≤ g) (h1 : g < p) (h2 : 2 ≤ p) (h3 : p ≤ 17) :
    Calls Try.prog 44 #[.int .i64 p, .int .i64 g] w fun e w' => e = .returned (.agg (pwA p g p.toNat)) ∧ Below w.heap.size w w' := by
  go_enter Try.func44, Try.ntmps44
  go_wp2
  go_loopw [6] (fun i wr => ∃ k : Nat, (k : Int) + 1 ≤ p ∧ i = .int .i64 ((k : Int) + 1) ∧ wr = (w.alloc (.cells (pwA p g 0) 77)).alloc (.cells (pwA p g (k + 1)) 77)) (fun i _ => (p - intOf i).toNat)
  case atStart => exact ⟨0, by omega, rfl, rfl⟩
  case round =>
    obtain ⟨k, hk, rfl, rfl⟩ := hrel
    by_cases hlt : (k : Int) + 1 < p
    · have hc : ((w.alloc (.cells (pwA p g 0) 77)).alloc (.cells (pwA p g (k + 1)) 77)).cell? ⟨w.heap.size + 1, k, none⟩ = some (.int .i64 (pw p g k)) := by
        rw [World.cell?_alloc_at _ _ _ _ (by simp)]
        have := pwA_get (p := p) (g := g) (k := k + 1) (j := k) (by omega)
        simpa using this
      have hs : (pwA p g (k + 1))[k + 1]? = some (.int .i64 0) := by rw [pwA_get (by omega), if_neg (by omega)]
      have hr := pw_rng (p := p) (g := g) (by omega) k
      have hm : 0 ≤ pw p g k * g := Int.mul_nonneg hr.1 h0
      have hm2 : pw p g k * g ≤ 17 * 17 := Int.mul_le_mul (by omega) (by omega) h0 (by omega)
      go_wp2
      go_roundw
      case rel => exact ⟨k + 1, by omega, by go_num, by rw [← pwA_set (k := k + 1)]; rfl⟩
      case measure => simp [intOf]; omega
    · obtain rfl : p = (k : Int) + 1 := by omega
      have hg1 : ((w.alloc (.cells (pwA (k + 1) g 0) 77)).alloc (.cells (pwA (k + 1) g (k + 1)) 77)).heap[w.heap.size + 1]? = some (.cells (pwA (k + 1) g (k + 1)) 77) := heap_alloc_at _ _ _ (by simp)
      have hg2 : ((w.alloc (.cells (pwA (k + 1) g 0) 77)).alloc (.cells (pwA (k + 1) g (k + 1)) 77)).heap[w.heap.size]? = some (.cells (pwA (k + 1) g 0) 77) := by
        rw [heap_alloc_lt _ _ _ (by simp)]; exact heap_alloc_at _ _ _ rfl
      have HG1 := Lib.hid hg1
      have HG2 := Lib.hid hg2
      clear hg1 hg2
      go_wp2_with (first
        | (refine wpList_load_row rfl 77 _ rfl (w.heap.size + 1) rfl 77 (pwA (k + 1) g (k + 1)) (0, 0) (.array 17 3) HG1.out Try.underlying77 rfl ?g1 ?_)
        | (refine wpList_store_row rfl 77 _ _ rfl w.heap.size (pwA (k + 1) g (k + 1)) rfl rfl 77 (pwA (k + 1) g 0) HG2.out ?g2 ?g3 ?g4 ?_))
      case g1 => simpa [pwA_size] using info_arr17
      case g2 => simpa [pwA_size] using info_arr17
      case g3 => simp [pwA_size]
      case g4 => intro i hi; exact pwA_one trivial
      refine bodyPost_ret (results_cell_row rfl _ _ w.heap.size 77 (pwA (k + 1) g (k + 1)) (0, 0) (.array 17 3) rfl (setRow_heap _ _ _ _ _ _ HG2.out) Try.underlying77 rfl (by rw [pwA_size]; exact info_arr17)) rfl ⟨by simp, ?_⟩
      exact below_setRow (((Below.refl _ _).alloc (Nat.le_refl _) _).alloc (by simp) _) (Nat.le_refl _) _
end Go.Proofs.Ytlgonmnbedddaaa
