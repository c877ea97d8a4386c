/- The reference's Before and Next. -/
import Derived.Test.YtlgonmnbedddaaaRAll
import Derived.Test.YtlgonmnbedddaaaCmp
import Derived.Test.YtlgonmnbedddaaaNext
set_option linter.unusedVariables false
set_option linter.unusedSimpArgs false
namespace Go.Proofs.Ytlgonmnbedddaaa
open Go.RowKit

set_option maxRecDepth 100000 in
set_option maxHeartbeats 800000 in
theorem before_any (v u : Value) (xs ys : List Int) (w : World) (hr : Reads w v xs) (hs : Reads w u ys) (hl : xs.length = ys.length) :
    Calls Try.prog 30 #[v, u] w fun e w' => e = .returned (.bool (ltB xs ys)) ∧ ∃ n, w' = w.drewN n := by
  obtain ⟨a, cap, rfl, h1, h2, hcell⟩ := hr.open
  obtain ⟨a2, cap2, rfl, h12, h22, hcell2⟩ := hs.open
  have h3 : xs.length ≤ 9223372036854775807 := by unfold maxLen at h2; omega
  generalize hn : xs.length = n at *
  have HN := Lib.hid hn
  have HL := Lib.hid hl
  clear h2 h22 hr hs hn
  rw [← hl] at hcell2 h12 ⊢
  clear hl
  go_enter Try.func30, Try.ntmps30
  go_wp2_with fail
  go_loopw [5] (fun i wr => ∃ k m : Nat, k ≤ n ∧ i = .int .i64 k ∧ xs.take k = ys.take k ∧ wr = w.drewN m) (fun i _ => n - (intOf i).toNat)
  case atStart => exact ⟨0, 0, by omega, rfl, by simp, rfl⟩
  case round =>
    obtain ⟨k, m, hk, rfl, ht, rfl⟩ := hrel
    have HT := Lib.hid ht
    clear ht
    by_cases hlt : k < n
    · obtain ⟨b, off, rfl, hb, hc⟩ := hcell k hlt
      obtain ⟨b2, off2, rfl, hb2, hc2⟩ := hcell2 k hlt
      clear hcell hcell2
      have k0 : (0 : Int) ≤ (k : Int) := by omega
      have k1 : (k : Int) < (n : Int) := by omega
      by_cases he : gi xs k = gi ys k
      · have he' : (gi xs k != gi ys k) = false := by simp [he]
        have HE := Lib.hid he
        clear he
        go_wp2_with fail
        go_quiet (fail)
        go_wp2_with fail
        go_roundw
        case rel => exact ⟨k + 1, _, by omega, by go_num, take_eq_succ (by have := HN.out; omega) (by have := HN.out; have := HL.out; omega) HT.out HE.out, by first | rfl | exact World.drewN_drewN ..⟩
        case measure => simp [intOf]; omega
      · have he' : (gi xs k != gi ys k) = true := by simp [he]
        have HE := Lib.hid he
        clear he
        go_wp2_with fail
        go_quiet (fail)
        go_wp2_with fail
        go_quiet (fail)
        go_wp2_with fail
        go_ret
        exact ⟨ret_bool (ltB_at (by have := HN.out; omega) (by have := HN.out; have := HL.out; omega) HT.out HE.out).symm, _, by first | rfl | exact World.drewN_drewN .. | (rw [World.drewN_drewN, World.drewN_drewN])⟩
    · obtain rfl : k = n := by omega
      have hsame : xs = ys := by
        have h := HT.out
        rwa [List.take_of_length_le (by have := HN.out; omega), List.take_of_length_le (by have := HN.out; have := HL.out; omega)] at h
      have HS := Lib.hid hsame
      clear hsame hcell hcell2
      go_wp2
      go_ret
      exact ⟨by rw [HS.out, ltB_irrefl]; rfl, _, rfl⟩

/-- a row and whether there is one -/
def RetOpt (w : World) (o : Option (List Int)) (e : Ending) (w' : World) : Prop := ∃ v, e = .returned (.tuple #[v, .bool o.isSome]) ∧ Reads w' v (o.getD []) ∧ Below w.heap.size w w'

theorem find_at {p : List Int → Bool} {l : List (List Int)} {k : Nat} (hk : k < l.length) (h1 : ∀ j, j < k → p (l.getD j []) = false) (h2 : p (l.getD k []) = true) : l.find? p = some (l.getD k []) := by
  refine find_pre (pre := l.take k) ?_ (fun m hm => ?_) h2
  · have : l.take k ++ [l.getD k []] = l.take (k + 1) := by rw [List.take_succ_eq_append_getElem hk]; simp [hk]
    rw [this]; exact List.take_prefix _ _
  · obtain ⟨j, hj, rfl⟩ := List.mem_take_iff_getElem.1 hm
    have := h1 j (by omega)
    have hj2 : j < l.length := by omega
    simpa [hj2] using this
theorem find_end {p : List Int → Bool} {l : List (List Int)} (h1 : ∀ j, j < l.length → p (l.getD j []) = false) : l.find? p = none := by
  refine find_no fun m hm => ?_
  obtain ⟨j, hj, rfl⟩ := List.getElem_of_mem hm
  simpa [hj] using h1 j hj

end Go.Proofs.Ytlgonmnbedddaaa
