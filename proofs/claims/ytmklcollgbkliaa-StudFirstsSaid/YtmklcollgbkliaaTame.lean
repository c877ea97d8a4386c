/- The helper tame of the statements: it makes an order. -/
import Derived.Test.YtmklcollgbkliaaOrd
import Derived.Test.YtmklcollgbkliaaMod
set_option linter.unusedVariables false
set_option linter.unusedSimpArgs false
namespace Go.Proofs.Ytmklcollgbkliaa
open Go.RowKit

/-- 'out = append(out, ys...)' of a slice of ints that has been collected since 'w0'. -/
theorem append_ints {ops : Array Oper} {rest : List Oper} {o : Oper} {a : Act} {w0 w : World} {Q : Exit → Act → World → Prop} (hgd : o.guard = none) (s x : Operand)
    (ho : o.op = .call { callee := .builtin .append, args := #[s, x], argTypes := #[22, 22] }) {v : Value} {xs ys : List Int} (hc : Col w0 w v xs) (hs : a.eval s = v)
    {ad : Addr} {c : Nat} (hx : a.eval x = .slice (some ad) ys.length c) (hr : Reads w (.slice (some ad) ys.length c) ys) (hlen : xs.length ≤ 1000000000) (hlen2 : ys.length ≤ 1000000000)
    (h : ∀ v' w', Col w0 w' v' (xs ++ ys) → (v' = .slice none 0 0 → v = .slice none 0 0) → wpList Try.prog ops Q rest (a.put o.dst v') w') : wpList Try.prog ops Q (o :: rest) a w := by
  obtain ⟨i0, hi, hz0, hz1, hz2⟩ := info_parts infoInt
  obtain ⟨a', cap', he, _, _, h3⟩ := hr
  cases he
  have hcells : ∀ j u, (ys.map (Value.int .i64))[j]? = some u → w.cell? (ad.add j) = some u := by
    intro j u hj
    rcases h3 with rfl | ⟨b', off, he, hS, hc⟩
    · simp at hj
    · cases he
      have hjl : j < ys.length := by
        have := (List.getElem?_eq_some_iff.1 hj).1; simpa using this
      have hadd : (⟨b', off, none⟩ : Addr).add j = ⟨b', off + j, none⟩ := by unfold Addr.add; split <;> simp_all
      rw [hadd, hc j hjl, gi_lt hjl]
      have : (ys.map (Value.int .i64))[j]? = some (.int .i64 ys[j]) := by simp [hjl]
      rw [this] at hj; exact hj
  have hc2 : ∀ u ∈ ys.map (Value.int .i64), u.oneCell' = true := by intro u hu; simp only [List.mem_map] at hu; obtain ⟨x, _, rfl⟩ := hu; rfl
  refine wpList_append_own _ hgd s x 22 ho w0.heap.size 3 i0 (.int .i64 0) 1 8 Try.underlying22 hi hz0 hz1 hz2 rfl (by decide) v xs.length (xs.map (Value.int .i64)) hs hc.own ad ys.length c (ys.map (Value.int .i64)) hx (by simp) hcells hc2 (by simp only [maxLen]; omega) (by omega) hc.below.size ?_
  intro v' w' hown' hgrow hnil
  refine h v' w' ⟨by simpa using hown', ?_⟩ (fun e => (hnil.1 e).1)
  refine hc.below.grown hgrow hc.below.size ?_
  intro k hk
  exact (World.ownsRow.lt hc.own k hk.symm.symm).1

theorem Col.some {w0 w : World} {v : Value} {xs : List Int} (h : Col w0 w v xs) (hne : v ≠ .slice none 0 0) : ∃ g cap, v = .slice (some ⟨g, 0, none⟩) xs.length cap := by
  obtain ⟨_, h2 | ⟨g, cap, cur, h3, h4⟩⟩ := h.own
  · exact absurd h2.1 hne
  · exact ⟨g, cap, h3⟩
theorem Reads.drop {w : World} {b off cap : Nat} {xs : List Int} {k : Nat} (h : Reads w (.slice (some ⟨b, off, none⟩) xs.length cap) xs) (hk : k ≤ xs.length) : Reads w (.slice (some ⟨b, off + k, none⟩) (xs.length - k) (cap - k)) (xs.drop k) := by
  obtain ⟨a', cap', he, h1, h2, h3⟩ := h
  cases he
  refine ⟨some ⟨b, off + k, none⟩, cap - k, by simp, by simp; omega, by omega, ?_⟩
  rcases h3 with rfl | ⟨b', off', he, hlt, hc⟩
  · exact .inl (by simp)
  · cases he
    refine .inr ⟨b, off + k, rfl, hlt, fun j hj => ?_⟩
    have hj' : k + j < xs.length := by simp at hj; omega
    have := hc (k + j) hj'
    rw [Nat.add_assoc, this]
    simp [gi]

theorem Reads.empty (w : World) (a : Option Addr) {n : Nat} {ys : List Int} (hn : n = 0) (h : ys = []) : Reads w (.slice a n 0) ys := by
  subst hn h; exact ⟨a, 0, rfl, Nat.le_refl _, by simp [maxLen], .inl rfl⟩

theorem Reads.none (w : World) (a : Option Addr) {c : Nat} (h : c ≤ maxLen) : Reads w (.slice a ([] : List Int).length c) [] :=
  ⟨a, c, rfl, Nat.zero_le _, h, .inl rfl⟩

/-- different numbers below their own number -/
def PermTo (xs : List Int) (k : Nat) : Prop := xs.length = k ∧ xs.Nodup ∧ ∀ x ∈ xs, 0 ≤ x ∧ x < k
theorem PermTo.insert {xs : List Int} {k m : Nat} (h : PermTo xs k) : PermTo (xs.take m ++ [(k : Int)] ++ xs.drop m) (k + 1) := by
  obtain ⟨h1, h2, h3⟩ := h
  have hp : (xs.take m ++ [(k : Int)] ++ xs.drop m).Perm ((k : Int) :: xs) := by
    rw [List.append_assoc]
    refine (List.perm_middle).trans ?_
    show ((k : Int) :: (xs.take m ++ xs.drop m)).Perm _
    rw [List.take_append_drop]
  refine ⟨by rw [hp.length_eq]; simp [h1], ?_, fun x hx => ?_⟩
  · rw [hp.nodup_iff, List.nodup_cons]
    exact ⟨fun hm => by have := (h3 _ hm).2; omega, h2⟩
  · rcases List.mem_cons.1 (hp.mem_iff.1 hx) with rfl | h
    · omega
    · have := h3 x h; omega
theorem PermTo.ord {xs : List Int} {k : Nat} (h : PermTo xs k) (h1 : 1 ≤ k) (h2 : k ≤ 16) : ordB xs = true := by
  obtain ⟨rfl, h4, h5⟩ := h
  simp only [ordB, decide_eq_true_eq]
  exact ⟨h1, h2, h5, h4⟩

end Go.Proofs.Ytmklcollgbkliaa
