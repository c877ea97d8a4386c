/- The symmetry reversed: slices.Reverse of a clone. -/
import Derived.Test.YtlgonmnbedddaaaCloneO
import Derived.Test.YtlgonmnbedddaaaOrd
import Derived.Shelf.RegionOpenPlain
import Derived.Sort.WalkB12
import Derived.Lib.Walk
import Derived.Lib.SlicesMore
import Derived.Lib.OwnBridge
set_option linter.unusedVariables false
set_option linter.unusedSimpArgs false
namespace Go.Proofs.Ytlgonmnbedddaaa
open Go.RowKit Go.Shelf Go.Lib Go.Sort

set_option maxHeartbeats 1600000 in
set_option maxRecDepth 1000000 in
theorem reverse_arr (blk off cap : Nat) (d : Array Int) (w : World) (hH : Holds encI w blk off d) (hsz : d.size ≤ 9223372036854775807) :
    Calls Try.prog 47 #[.slice (some ⟨blk, off, none⟩) d.size cap] w fun e w' => e = .returned (.tuple #[]) ∧ ∃ n, w' = putRow encI (Sort.ahead w n) blk off d.reverse := by
  have mixed : Try.prog.follows Departure.mixedOrders = true := by kernel_rfl
  go_enter Try.func47, Try.ntmps47
  go_wp2
  go_loopg [2, 3] d.size (fun k s2 s3 wr => ∃ (i jn : Nat) (jz : Int) (dk : Array Int) (n : Nat), s2 = .int .i64 i ∧ s3 = .int .i64 jz ∧ ((i : Int) < jz → jz = jn ∧ jn < d.size) ∧ (¬ (i : Int) < jz → ¬ i < jn) ∧ jn - i ≤ k ∧
    dk.size = d.size ∧ wr = putRow encI (Sort.ahead w n) blk off dk ∧ reverseLoop i jn dk = reverseLoop 0 (d.size - 1) d)
  case atStart => exact ⟨0, d.size - 1, (d.size : Int) - 1, d, 0, rfl, rfl, fun h => ⟨by omega, by omega⟩, fun h => by omega, by omega, rfl, (putRow_self encI w blk off d hH).symm, rfl⟩
  case round =>
    obtain ⟨i, jn, jz, dk, n, rfl, rfl, h1, h2, hk, hds, hwr, heq⟩ := hrel
    by_cases hlt : (i : Int) < jz
    · obtain ⟨rfl, hjn⟩ := h1 hlt
      have hij : i < jn := by omega
      have hHk : Holds encI wr blk off dk := by rw [hwr]; exact holds_putRow encI _ blk off d dk (holds_ahead encI w n blk off d hH) hds
      obtain ⟨ci, fi⟩ := hHk i (by omega)
      obtain ⟨cj, fj⟩ := hHk jn (by omega)
      have A : Aside (wr = putRow encI (Sort.ahead w n) blk off dk) := hwr
      clear hwr hHk hH h1 h2
      go_wp2_with fail
      go_region_o
      go_wp2
      go_roundg (jn - 1 - (i + 1))
      case measure => omega
      case rel =>
        rw [reverseLoop, if_pos hij] at heq
        exact ⟨i + 1, jn - 1, (jn : Int) - 1, swp dk i jn, n + 1, by simp, rfl, fun h => ⟨by omega, by omega⟩, fun h => by omega, Nat.le_refl _, by rw [size_swp]; exact hds,
          swap_world encI (by omega) (by omega) A.out (by first | rfl | simp [encI, getElem!_pos, show jn < dk.size by omega]) (by first | rfl | simp [encI, getElem!_pos, show i < dk.size by omega]), heq⟩
    · have hnot := h2 hlt
      go_wp2
      go_end0
      refine ⟨rfl, n, ?_⟩
      rw [reverseLoop, if_neg hnot] at heq
      rw [← Lib.reverseLoop_reverse, ← heq]

theorem Col.nonnil {w0 w : World} {v : Value} {xs : List Int} (h : Col w0 w v xs) (hl : 1 ≤ xs.length) : v ≠ .slice none 0 0 := by
  rintro rfl
  obtain ⟨_, h2 | ⟨g, cap, cur, h3, h4⟩⟩ := h.own
  · have := h2.2; omega
  · cases h3

set_option maxHeartbeats 800000 in
theorem reversed_any (v : Value) (xs : List Int) (w : World) (hr : Reads w v xs) (ho : ordB xs = true) :
    Calls Try.prog 35 #[v] w fun e w' => ∃ v', e = .returned v' ∧ Col w w' v' xs.reverse := by
  obtain ⟨hl1, hl2⟩ := ordB_len ho
  go_enter Try.func35, Try.ntmps35
  go_wp2_with fail
  refine (cloneO_any _ xs _ hr (by omega)).mono ?_
  rintro e w1 ⟨v1, rfl, hcol⟩
  obtain ⟨g, cap, hv, hbg, hg, hn, hm, hzl, hH⟩ := Lib.holds_of_ownsRow hcol.own (hcol.nonnil hl1)
  subst hv
  have hb := hcol.below
  have hown := hcol.own
  clear hcol hr
  go_wp2_with fail
  refine ((by simpa using reverse_arr g 0 cap xs.toArray w1 hH (by simp; omega)) : Calls Try.prog 47 #[.slice (some ⟨g, 0, none⟩) xs.length cap] w1 fun e w' => e = .returned (.tuple #[]) ∧ ∃ n, w' = putRow encI (Sort.ahead w1 n) g 0 xs.reverse.toArray).mono ?_
  rintro e w2 ⟨rfl, q, rfl⟩
  go_wp2_with fail
  go_ret
  refine ⟨_, rfl, ?_, Lib.below_putRow hb hbg⟩
  have := Lib.ownsRow_putRow (q := q) (k := xs.length) (ys := xs.reverse) hown (by simp) (Nat.le_refl _)
  rw [List.take_of_length_le (by simp)] at this
  rw [List.length_reverse]
  exact this
end Go.Proofs.Ytlgonmnbedddaaa
