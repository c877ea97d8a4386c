/- slices.Clone of a slice of ints. -/
import Derived.Test.YtlgonmnbedddaaaBase
set_option linter.unusedVariables false
set_option linter.unusedSimpArgs false
namespace Go.Proofs.Ytlgonmnbedddaaa
open Go.RowKit

set_option maxRecDepth 100000 in
set_option maxHeartbeats 800000 in
theorem clone_any (v : Value) (xs : List Int) (w : World) (hr : Reads w v xs) (hl : xs.length ≤ 1000000) :
    Calls Try.prog 53 #[v] w fun e w' => ∃ v', e = .returned v' ∧ Col w w' v' xs := by
  obtain ⟨a, cap, rfl, h1, h2, h3⟩ := hr
  clear h2
  cases a with
  | none =>
    obtain rfl : xs = [] := by
      rcases h3 with h | ⟨b, off, h, _⟩
      · exact h
      · cases h
    have heq : ∀ w n c, (binOp .eql 22 (.slice none n c) (.slice none 0 0)).run Try.prog w = .ok (.bool true) w := fun w n c => by kernel_rfl
    go_enter Try.func53, Try.ntmps53
    go_wp2
    go_ret
    exact ⟨_, rfl, Col.nil w⟩
  | some ad =>
    have hcells : ∀ j u, (xs.map (Value.int .i64))[j]? = some u → w.cell? (ad.add j) = some u := by
      intro j u hj
      rcases h3 with rfl | ⟨b', off, he, hS, hc⟩
      · simp at hj
      · cases he
        have hjl : j < xs.length := by
          have := (List.getElem?_eq_some_iff.1 hj).1; simpa using this
        have hadd : (⟨b', off, none⟩ : Addr).add j = ⟨b', off + j, none⟩ := by unfold Addr.add; split <;> simp_all
        rw [hadd, hc j hjl, gi_lt hjl]
        have : (xs.map (Value.int .i64))[j]? = some (.int .i64 xs[j]) := by simp [hjl]
        rw [this] at hj; exact hj
    obtain ⟨i0, hi, hz0, hz1, hz2⟩ := info_parts infoInt
    clear h3
    have hc1 : ∀ j u, (xs.map (Value.int .i64))[j]? = some u → (w.alloc (.cells #[] 3)).cell? (ad.add j) = some u := fun j u hj => by
      have h := hcells j u hj
      have hlt := World.block_lt_of_cell? w _ h
      have := heap_alloc_lt w (.cells #[] 3) _ hlt
      rw [World.cell?_of_block (w := w) this]; exact h
    have hc2 : ∀ u ∈ xs.map (Value.int .i64), u.oneCell' = true := by intro u hu; simp only [List.mem_map] at hu; obtain ⟨x, _, rfl⟩ := hu; rfl
    have heq : ∀ w n c, (binOp .eql 22 (.slice (some ad) n c) (.slice none 0 0)).run Try.prog w = .ok (.bool false) w := fun w n c => by kernel_rfl
    go_enter Try.func53, Try.ntmps53
    go_wp2_with (at_builtin; refine wpList_append_own _ rfl _ _ 22 rfl w.heap.size 3 i0 (.int .i64 0) 1 8 Try.underlying22 hi hz0 hz1 hz2 rfl (by decide) (.slice (some ⟨w.heap.size, 0, none⟩) 0 0) 0 [] rfl (World.ownsRow_made w #[] 0 (Nat.le_refl _) (by simp [maxLen]) (by simp)) ad xs.length cap (xs.map (Value.int .i64)) rfl (by simp) hc1 hc2 (by simp [maxLen]; omega) (by omega) (by simp) ?_; intro v' w1 hown' hgrow _)
    go_ret
    refine ⟨_, rfl, by simpa using hown', ?_⟩
    exact ((Below.refl _ _).alloc (Nat.le_refl _) _).grown hgrow (by simp) (fun k e => by simp [Value.ownBlock] at e; omega)
end Go.Proofs.Ytlgonmnbedddaaa
