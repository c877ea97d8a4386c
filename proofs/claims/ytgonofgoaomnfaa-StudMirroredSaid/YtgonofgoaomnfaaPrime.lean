/- The helper prime of the statements: one of the primes, and two of its roots. -/
import Derived.Test.YtgonofgoaomnfaaRRoots
import Derived.Test.YtgonofgoaomnfaaMod
import Derived.Test.YtgonofgoaomnfaaLens
set_option linter.unusedVariables false
set_option linter.unusedSimpArgs false
namespace Go.Proofs.Ytgonofgoaomnfaa
open Go.RowKit

theorem rootsL_root {p : Int} {n k : Nat} (h : k < (rootsL p n).length) : rootB p (gi (rootsL p n) k) = true := by
  have := gi_mem h
  unfold rootsL at this
  exact (List.mem_filter.1 this).2
def someRootB : Bool := [3, 5, 7, 11, 13, 17].all fun (p : Int) => decide (1 ≤ (rootsL p p.toNat).length)
theorem someRootB_true : someRootB = true := by kernel_rfl
theorem rootsL_some {p : Int} (hp : primeB p = true) : 1 ≤ (rootsL p p.toNat).length := by
  have hm : p ∈ [(3 : Int), 5, 7, 11, 13, 17] := by
    rcases primeB_cases hp with h | h | h | h | h | h <;> simp [h]
  simpa using List.all_eq_true.1 someRootB_true p hm

def primeAt (k : Int) : Int := gi [3, 5, 7, 11, 13, 17] k.toNat

set_option maxRecDepth 100000 in
set_option maxHeartbeats 1600000 in
theorem prime_any (x y z : Int) (w : World) :
    Calls Try.prog 4 #[.int .i64 x, .int .i64 y, .int .i64 z] w fun e w' => ∃ p g h : Int, e = .returned (.tuple #[.int .i64 p, .int .i64 g, .int .i64 h]) ∧ primeB p = true ∧ rootB p g = true ∧ rootB p h = true ∧ Below w.heap.size w w' := by
  obtain ⟨k, hk⟩ : ∃ k : Nat, modN x 6 = k := ⟨(modN x 6).toNat, by have := modN_rng x (n := 6) (by omega); omega⟩
  have hk6 : k < 6 := by have := modN_rng x (n := 6) (by omega); omega
  obtain ⟨p, hpp⟩ : ∃ p, gi [3, 5, 7, 11, 13, 17] k = p := ⟨_, rfl⟩
  have hp : primeB p = true := by
    have : k = 0 ∨ k = 1 ∨ k = 2 ∨ k = 3 ∨ k = 4 ∨ k = 5 := by omega
    rcases this with h | h | h | h | h | h <;> subst h <;> subst hpp <;> rfl
  have hix : ∀ w, (Instr.index 33 (.agg #[.int .i64 3, .int .i64 5, .int .i64 7, .int .i64 11, .int .i64 13, .int .i64 17]) (.int .i64 k)).run Try.prog w = .ok (.int .i64 p) w := by
    have : k = 0 ∨ k = 1 ∨ k = 2 ∨ k = 3 ∨ k = 4 ∨ k = 5 := by omega
    rcases this with h | h | h | h | h | h <;> subst h <;> subst hpp <;> intro w <;> kernel_rfl
  have HIX := Lib.hid hix
  clear hix
  obtain ⟨hp3, hp17⟩ := primeB_rng hp
  have hl1 := rootsL_some hp
  have hl2 := rootsL_len p p.toNat
  have HK := Lib.hid hk
  have HP := Lib.hid hp
  clear hk hp hpp
  obtain ⟨n, hn⟩ : ∃ n, (rootsL p p.toNat).length = n := ⟨_, rfl⟩
  rw [hn] at hl1 hl2
  obtain ⟨i, hi⟩ : ∃ i : Nat, modN y n = i := ⟨(modN y n).toNat, by have := modN_rng y (n := n) (by omega); omega⟩
  obtain ⟨j, hj⟩ : ∃ j : Nat, modN z n = j := ⟨(modN z n).toNat, by have := modN_rng z (n := n) (by omega); omega⟩
  have hin : i < n := by have := modN_rng y (n := n) (by omega); omega
  have hjn : j < n := by have := modN_rng z (n := n) (by omega); omega
  have HG := Lib.hid (rootsL_root (p := p) (n := p.toNat) (k := i) (by omega))
  have HH := Lib.hid (rootsL_root (p := p) (n := p.toNat) (k := j) (by omega))
  have HI := Lib.hid hi
  have HJ := Lib.hid hj
  have HN := Lib.hid hn
  clear hi hj hn
  go_enter Try.func4, Try.ntmps4
  go_wp2_with (go_at_call 10; refine (mod_any _ _ _ (by omega) (by omega)).mono ?_; rintro e w' ⟨rfl, rfl⟩; rw [HK.out])
  rw [HIX.out]
  go_wp2_with fail
  refine (refRoots_any p _ HP.out).mono ?_
  rintro e w1 ⟨v, rfl, hcol⟩
  obtain ⟨a, cap, rfl, h1, h2, hcell⟩ := hcol.reads.open
  rw [HN.out] at h1 hcell ⊢
  obtain ⟨b, off, rfl, hb, hc⟩ := hcell i hin
  obtain ⟨b', off', he', hb', hc'⟩ := hcell j hjn
  cases he'
  have hb0 := hcol.below
  clear hcell hcol
  have HC := Lib.hid hc
  have HC' := Lib.hid hc'
  go_wp2_with fail
  go_region_held3 (fun w' => w'.cell? ⟨b, off + i, none⟩ = some (.int .i64 (gi (rootsL p p.toNat) i)) ∧ w'.cell? ⟨b, off + j, none⟩ = some (.int .i64 (gi (rootsL p p.toNat) j)))
    (first | go_keep | exact ⟨HC.out, HC'.out⟩)
    (first
      | (go_at_call 10; refine (mod_any _ _ _ (by omega) (by omega)).mono ?_; rintro e w' ⟨rfl, rfl⟩; (first | rw [HI.out] | rw [HJ.out])))
  go_wp2
  go_ret3
  exact ⟨p, _, _, rfl, HP.out, HG.out, HH.out, hb0.drew⟩
end Go.Proofs.Ytgonofgoaomnfaa
