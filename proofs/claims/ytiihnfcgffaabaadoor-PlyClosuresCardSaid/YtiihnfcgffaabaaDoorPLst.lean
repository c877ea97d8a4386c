/- The helper list of the statements: a copy of at most seven numbers. -/
import Derived.Test.YtiihnfcgffaabaaDoorBase
set_option linter.unusedVariables false
set_option linter.unusedSimpArgs false
namespace Go.Proofs.YtiihnfcgffaabaaDoor
open Go.RowKit

set_option maxRecDepth 100000 in
set_option maxHeartbeats 800000 in
theorem lawList_any (v : Value) (xs : List Int) (w : World) (hr : Reads w v xs) :
    Calls Tryd.prog 4 #[v] w fun e w' => ∃ v', e = .returned v' ∧ Col w w' v' (xs.take 7) := by
  obtain ⟨a, cap, rfl, h1, h2, h3⟩ := hr
  cases a with
  | none =>
    obtain rfl : xs = [] := by
      rcases h3 with h | ⟨b, off, h, _⟩
      · exact h
      · cases h
    go_enter Tryd.func4, Tryd.ntmps4
    go_wp2
    go_ret
    exact ⟨_, rfl, Col.nil w⟩
  | some ad =>
    have hcells : ∀ j u, ((xs.take 7).map (Value.int .i64))[j]? = some u → w.cell? (ad.add j) = some u := by
      intro j u hj
      rcases h3 with rfl | ⟨b', off, he, hS, hc⟩
      · simp at hj
      · cases he
        have hjl : j < (xs.take 7).length := by
          have := (List.getElem?_eq_some_iff.1 hj).1; simpa using this
        have hjl2 : j < xs.length := by simp at hjl; omega
        have hadd : (⟨b', off, none⟩ : Addr).add j = ⟨b', off + j, none⟩ := by unfold Addr.add; split <;> simp_all
        rw [hadd, hc j hjl2, gi_lt hjl2]
        have : ((xs.take 7).map (Value.int .i64))[j]? = some (.int .i64 xs[j]) := by simp at hjl; simp [List.getElem?_take, hjl]
        rw [this] at hj; exact hj
    obtain ⟨i0, hi, hz0, hz1, hz2⟩ := info_parts infoInt
    clear h3
    have hc2 : ∀ u ∈ (xs.take 7).map (Value.int .i64), u.oneCell' = true := by intro u hu; simp only [List.mem_map] at hu; obtain ⟨x, _, rfl⟩ := hu; rfl
    have h2' : cap ≤ 9223372036854775807 := by unfold maxLen at h2; omega
    have h3' : xs.length ≤ 9223372036854775807 := by omega
    have HM := Lib.hid h2
    clear h2
    by_cases hl : xs.length ≤ 7
    · have ht : (xs.take 7).length = xs.length := by simp [hl]
      have HT := Lib.hid ht
      clear ht
      have hl' : (xs.length : Int) ≤ 7 := by omega
      go_enter Tryd.func4, Tryd.ntmps4
      go_wp2_with (at_builtin; refine wpList_append_own _ rfl _ _ 22 rfl w.heap.size 3 i0 (.int .i64 0) 1 8 Tryd.underlying22 hi hz0 hz1 hz2 rfl (by decide) (.slice none 0 0) 0 [] rfl (World.ownsRow_nil _ _ _ _) ad xs.length cap ((xs.take 7).map (Value.int .i64)) rfl (by rw [List.length_map, HT.out]; try omega) hcells hc2 (by simp [maxLen]; omega) (by omega) (by simp) ?_; intro v' w1 hown' hgrow _)
      go_ret
      refine ⟨v', rfl, by rw [HT.out]; simpa only [Nat.zero_add, List.nil_append] using hown', ?_⟩
      exact (Below.refl _ _).grown hgrow (by simp) (fun k e => by simp [Value.ownBlock] at e)
    · have ht : (xs.take 7).length = 7 := by simp; omega
      have HT := Lib.hid ht
      clear ht
      have hl' : (7 : Int) ≤ (xs.length : Int) := by omega
      go_enter Tryd.func4, Tryd.ntmps4
      go_wp2_with (at_builtin; refine wpList_append_own _ rfl _ _ 22 rfl w.heap.size 3 i0 (.int .i64 0) 1 8 Tryd.underlying22 hi hz0 hz1 hz2 rfl (by decide) (.slice none 0 0) 0 [] rfl (World.ownsRow_nil _ _ _ _) ad 7 cap ((xs.take 7).map (Value.int .i64)) rfl (by rw [List.length_map, HT.out]; try omega) hcells hc2 (by simp [maxLen]) (by omega) (by simp) ?_; intro v' w1 hown' hgrow _)
      go_ret
      refine ⟨v', rfl, by rw [HT.out]; simpa only [Nat.zero_add, List.nil_append] using hown', ?_⟩
      exact (Below.refl _ _).grown hgrow (by simp) (fun k e => by simp [Value.ownBlock] at e)
end Go.Proofs.YtiihnfcgffaabaaDoor
