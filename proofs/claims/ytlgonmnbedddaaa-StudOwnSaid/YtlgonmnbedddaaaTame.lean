/- The helper tame of the statements: it makes an order. -/
import Derived.Test.YtlgonmnbedddaaaOrd
import Derived.Test.YtlgonmnbedddaaaMod
set_option linter.unusedVariables false
set_option linter.unusedSimpArgs false
namespace Go.Proofs.Ytlgonmnbedddaaa
open Go.RowKit

/-- 'out = append(out, ys...)' of a slice of ints that has been collected since 'w0'. -/
theorem append_ints {ops : Array Oper} {rest : List Oper} {o : Oper} {a : Act} {w0 w : World} {Q : Exit → Act → World → Prop} (hgd : o.guard = none) (s x : Operand)
    (ho : o.op = .call { callee := .builtin .append, args := #[s, x], argTypes := #[22, 22] }) {v : Value} {xs ys : List Int} (hc : Col w0 w v xs) (hs : a.eval s = v)
    {ad : Addr} {c : Nat} (hx : a.eval x = .slice (some ad) ys.length c) (hr : Reads w (.slice (some ad) ys.length c) ys) (hlen : xs.length ≤ 1000000000) (hlen2 : ys.length ≤ 1000000000)
    (h : ∀ v' w', Col w0 w' v' (xs ++ ys) → (v' = .slice none 0 0 → v = .slice none 0 0) → wpList Try.prog ops Q rest (a.put o.dst v') w') : wpList Try.prog ops Q (o :: rest) a w := by
  obtain ⟨i0, hi, hz0, hz1, hz2⟩ := info_parts infoInt
  obtain ⟨a', cap', he, _, _, h3⟩ := hr
  cases he
  have hcells : ∀ j u, (ys.map (Value.int .i64))[j]? = some u → w.cell? (ad.add j) = some u := by
    intro j u hj
    rcases h3 with rfl | ⟨b', off, he, hS, hc⟩
    · simp at hj
    · cases he
      have hjl : j < ys.length := by
        have := (List.getElem?_eq_some_iff.1 hj).1; simpa using this
      have hadd : (⟨b', off, none⟩ : Addr).add j = ⟨b', off + j, none⟩ := by unfold Addr.add; split <;> simp_all
      rw [hadd, hc j hjl, gi_lt hjl]
      have : (ys.map (Value.int .i64))[j]? = some (.int .i64 ys[j]) := by simp [hjl]
      rw [this] at hj; exact hj
  have hc2 : ∀ u ∈ ys.map (Value.int .i64), u.oneCell' = true := by intro u hu; simp only [List.mem_map] at hu; obtain ⟨x, _, rfl⟩ := hu; rfl
  refine wpList_append_own _ hgd s x 22 ho w0.heap.size 3 i0 (.int .i64 0) 1 8 Try.underlying22 hi hz0 hz1 hz2 rfl (by decide) v xs.length (xs.map (Value.int .i64)) hs hc.own ad ys.length c (ys.map (Value.int .i64)) hx (by simp) hcells hc2 (by simp only [maxLen]; omega) (by omega) hc.below.size ?_
  intro v' w' hown' hgrow hnil
  refine h v' w' ⟨by simpa using hown', ?_⟩ (fun e => (hnil.1 e).1)
  refine hc.below.grown hgrow hc.below.size ?_
  intro k hk
  exact (World.ownsRow.lt hc.own k hk.symm.symm).1

theorem Col.some {w0 w : World} {v : Value} {xs : List Int} (h : Col w0 w v xs) (hne : v ≠ .slice none 0 0) : ∃ g cap, v = .slice (some ⟨g, 0, none⟩) xs.length cap := by
  obtain ⟨_, h2 | ⟨g, cap, cur, h3, h4⟩⟩ := h.own
  · exact absurd h2.1 hne
  · exact ⟨g, cap, h3⟩
theorem Reads.drop {w : World} {b off cap : Nat} {xs : List Int} {k : Nat} (h : Reads w (.slice (some ⟨b, off, none⟩) xs.length cap) xs) (hk : k ≤ xs.length) : Reads w (.slice (some ⟨b, off + k, none⟩) (xs.length - k) (cap - k)) (xs.drop k) := by
  obtain ⟨a', cap', he, h1, h2, h3⟩ := h
  cases he
  refine ⟨some ⟨b, off + k, none⟩, cap - k, by simp, by simp; omega, by omega, ?_⟩
  rcases h3 with rfl | ⟨b', off', he, hlt, hc⟩
  · exact .inl (by simp)
  · cases he
    refine .inr ⟨b, off + k, rfl, hlt, fun j hj => ?_⟩
    have hj' : k + j < xs.length := by simp at hj; omega
    have := hc (k + j) hj'
    rw [Nat.add_assoc, this]
    simp [gi]

theorem Reads.empty (w : World) (a : Option Addr) {n : Nat} {ys : List Int} (hn : n = 0) (h : ys = []) : Reads w (.slice a n 0) ys := by
  subst hn h; exact ⟨a, 0, rfl, Nat.le_refl _, by simp [maxLen], .inl rfl⟩

theorem Reads.none (w : World) (a : Option Addr) {c : Nat} (h : c ≤ maxLen) : Reads w (.slice a ([] : List Int).length c) [] :=
  ⟨a, c, rfl, Nat.zero_le _, h, .inl rfl⟩

/-- different numbers below their own number -/
def PermTo (xs : List Int) (k : Nat) : Prop := xs.length = k ∧ xs.Nodup ∧ ∀ x ∈ xs, 0 ≤ x ∧ x < k
theorem PermTo.insert {xs : List Int} {k m : Nat} (h : PermTo xs k) : PermTo (xs.take m ++ [(k : Int)] ++ xs.drop m) (k + 1) := by
  obtain ⟨h1, h2, h3⟩ := h
  have hp : (xs.take m ++ [(k : Int)] ++ xs.drop m).Perm ((k : Int) :: xs) := by
    rw [List.append_assoc]
    refine (List.perm_middle).trans ?_
    show ((k : Int) :: (xs.take m ++ xs.drop m)).Perm _
    rw [List.take_append_drop]
  refine ⟨by rw [hp.length_eq]; simp [h1], ?_, fun x hx => ?_⟩
  · rw [hp.nodup_iff, List.nodup_cons]
    exact ⟨fun hm => by have := (h3 _ hm).2; omega, h2⟩
  · rcases List.mem_cons.1 (hp.mem_iff.1 hx) with rfl | h
    · omega
    · have := h3 x h; omega
theorem PermTo.ord {xs : List Int} {k : Nat} (h : PermTo xs k) (h1 : 1 ≤ k) (h2 : k ≤ 16) : ordB xs = true := by
  obtain ⟨rfl, h4, h5⟩ := h
  simp only [ordB, decide_eq_true_eq]
  exact ⟨h1, h2, h5, h4⟩

set_option maxRecDepth 100000 in
set_option maxHeartbeats 3200000 in
theorem tame_any (x : Int) (sl : Value) (ls : List Int) (most : Int) (w : World) (hr : Reads w sl ls) (hm1 : 1 ≤ most) (hm2 : most ≤ 16) :
    Calls Try.prog 4 #[.int .i64 x, sl, .int .i64 most] w fun e w' => ∃ v xs, e = .returned v ∧ v ≠ .slice none 0 0 ∧ Col w w' v xs ∧ ordB xs = true ∧ (xs.length : Int) ≤ most := by
  obtain ⟨a, cap, rfl, h1, h2, hcell⟩ := hr.open
  have h3 : ls.length ≤ 9223372036854775807 := by unfold maxLen at h2; omega
  obtain ⟨q, hq⟩ : ∃ q : Nat, modN x most = q := ⟨(modN x most).toNat, by have := modN_rng x hm1; omega⟩
  have hq2 : (q : Int) < most := by have := modN_rng x hm1; omega
  have HQ := Lib.hid hq
  clear h2 hq h1
  go_enter Try.func4, Try.ntmps4
  go_wp2_with (go_at_call 15; refine (mod_any _ _ _ (by omega) (by omega)).mono ?_; rintro e w' ⟨rfl, rfl⟩; rw [HQ.out])
  have hown : Col w (w.alloc (.cells #[] 3)) (.slice (some ⟨w.heap.size, 0, none⟩) 0 0) [] :=
    ⟨World.ownsRow_made w #[] 0 (Nat.le_refl _) (by simp [maxLen]) (by simp), (Below.refl _ _).alloc (Nat.le_refl _) _⟩
  generalize hW0 : World.alloc w _ = W0 at hown ⊢
  clear hW0
  go_loopw [7, 8] (fun v i wr => ∃ (k : Nat) (xs : List Int), (k : Int) ≤ 1 + q ∧ i = .int .i64 k ∧ v ≠ .slice none 0 0 ∧ Col w wr v xs ∧ PermTo xs k) (fun _ i _ => (1 + q - intOf i).toNat)
  case atStart => exact ⟨0, [], by omega, rfl, by simp, hown, rfl, by simp, by simp⟩
  case round =>
    obtain ⟨k, xs, hk, rfl, hne, hcol, hp⟩ := hrel
    obtain ⟨g, cap7, rfl⟩ := hcol.some hne
    have hpl := hp.1
    subst hpl
    by_cases hlt : (xs.length : Int) < 1 + q
    · have hread := hcol.reads
      obtain ⟨_, _, hev, hcap1, hcap2, _⟩ := hread
      cases hev
      have hgl : Reads wr (.slice (some ⟨g, 0, none⟩) xs.length cap7) xs := hcol.reads
      have hcap3 : cap7 ≤ 9223372036854775807 := by unfold maxLen at hcap2; omega
      have HP := Lib.hid hp
      have HCM := Lib.hid hcap2
      clear hne hcap2 hp
      have step : ∀ m : Nat, m ≤ xs.length → True := fun _ _ => trivial
      by_cases hll : (xs.length : Int) < (ls.length : Int)
      · obtain ⟨b, off, rfl, hb, hc⟩ := hcell xs.length (by omega)
        have hc' : wr.cell? ⟨b, off + xs.length, none⟩ = some (.int .i64 (gi ls xs.length)) := (hcol.below.cell (p := ⟨b, off + xs.length, none⟩) hb).trans hc
        obtain ⟨m, hm⟩ : ∃ m : Nat, modN (gi ls xs.length) ((xs.length : Int) + 1) = m := ⟨(modN (gi ls xs.length) ((xs.length : Int) + 1)).toNat, by have := modN_rng (gi ls xs.length) (n := (xs.length : Int) + 1) (by omega); omega⟩
        have hm2 : m ≤ xs.length := by have := modN_rng (gi ls xs.length) (n := (xs.length : Int) + 1) (by omega); omega
        have HM := Lib.hid hm
        clear hm hcell hc
        have hrd1 : Reads wr (.slice (some ⟨g, 0, none⟩) m cap7) (xs.take m) := hgl.take hm2
        obtain ⟨ad2, hif, hrd2⟩ : ∃ ad2 : Addr, (if cap7 = m then some (⟨g, 0, none⟩ : Addr) else some ⟨g, m, none⟩) = some ad2 ∧ Reads wr (.slice (some ad2) (xs.length - m) (cap7 - m)) (xs.drop m) := by
          by_cases hcm : cap7 = m
          · refine ⟨⟨g, 0, none⟩, by rw [if_pos hcm], ?_⟩
            rw [show cap7 - m = 0 by omega]
            exact Reads.empty _ _ (by omega) (List.drop_eq_nil_of_le (by omega))
          · refine ⟨⟨g, m, none⟩, by rw [if_neg hcm], ?_⟩
            have := hgl.drop hm2; rwa [Nat.zero_add] at this
        have ht1 : (xs.take m).length = m := by simp [hm2]
        have ht2 : (xs.drop m).length = xs.length - m := by simp
        have hm3 : (m : Int) ≤ (cap7 : Int) := by omega
        have hm4 : (m : Int) ≤ (xs.length : Int) := by omega
        have hm5 : m ≤ cap7 := by omega
        have hm0 : (0 : Int) ≤ (m : Int) := by omega
        have hk0 : (0 : Int) ≤ (xs.length : Int) := by omega
        have HT1 := Lib.hid ht1
        have HT2 := Lib.hid ht2
        have HL3 : Hid (([] ++ xs.take m ++ [(xs.length : Int)]).length ≤ 1000000000) := Lib.hid (by simp; omega)
        clear ht1 ht2
        go_wp2_with (first
          | (go_at_call 15; refine (mod_any _ _ _ (by omega) (by omega)).mono ?_; rintro e w' ⟨rfl, rfl⟩; rw [HM.out])
          | (at_builtin; refine append_ints rfl _ _ rfl (Col.nil wr) rfl (ad := ⟨g, 0, none⟩) (c := cap7) (ys := xs.take m) (by rw [HT1.out]; rfl) (by rw [HT1.out]; exact hrd1) (by simp) (by rw [HT1.out]; omega) ?_; intro v1 w1 hc1 _)
          | (at_builtin; refine append_int rfl _ _ rfl hc1 rfl _ rfl (by rw [List.nil_append, HT1.out]; omega) ?_; intro v2 w2 hc2 hne2)
          | (at_builtin; refine append_ints rfl _ _ rfl hc2 rfl (ad := ad2) (c := cap7 - m) (ys := xs.drop m) (by rw [HT2.out]; rfl) (by rw [HT2.out]; exact hrd2.below hc2.below) HL3.out (by rw [HT2.out]; omega) ?_; intro v3 w3 hc3 hne3))
        go_roundw
        case rel => exact ⟨xs.length + 1, xs.take m ++ [(xs.length : Int)] ++ xs.drop m, by omega, by go_num, fun e => hne2 (hne3 e), by simpa using hc3.lower hcol.below, HP.out.insert⟩
        case measure => simp [intOf]; omega
      · have hll' : ¬ (xs.length : Int) < (ls.length : Int) := hll
        clear hcell
        obtain ⟨ad2, hif⟩ : ∃ ad2 : Addr, (if cap7 = xs.length then some (⟨g, 0, none⟩ : Addr) else some ⟨g, xs.length, none⟩) = some ad2 := by
          by_cases hcm : cap7 = xs.length
          · exact ⟨⟨g, 0, none⟩, by rw [if_pos hcm]⟩
          · exact ⟨⟨g, xs.length, none⟩, by rw [if_neg hcm]⟩
        have hm3 : (xs.length : Int) ≤ (cap7 : Int) := by omega
        have hk0 : (0 : Int) ≤ (xs.length : Int) := by omega
        have HL2 : Hid (([] ++ xs).length ≤ 1000000000) := Lib.hid (by simp; omega)
        have HL3 : Hid (([] ++ xs ++ [(xs.length : Int)]).length ≤ 1000000000) := Lib.hid (by simp; omega)
        go_wp2_with (first
          | (at_builtin; refine append_ints rfl _ _ rfl (Col.nil wr) rfl (ad := ⟨g, 0, none⟩) (c := cap7) (ys := xs) rfl hgl (by simp) (by omega) ?_; intro v1 w1 hc1 _)
          | (at_builtin; refine append_int rfl _ _ rfl hc1 rfl _ rfl HL2.out ?_; intro v2 w2 hc2 hne2)
          | (at_builtin; refine append_ints rfl _ _ rfl hc2 rfl (ad := ad2) (c := cap7 - xs.length) (ys := []) rfl (Reads.none _ _ (Nat.le_trans (Nat.sub_le _ _) HCM.out)) HL3.out (by simp) ?_; intro v3 w3 hc3 hne3))
        go_roundw
        case rel => exact ⟨xs.length + 1, xs.take xs.length ++ [(xs.length : Int)] ++ xs.drop xs.length, by omega, by go_num, fun e => hne2 (hne3 e), by simpa using hc3.lower hcol.below, HP.out.insert⟩
        case measure => simp [intOf]; omega
    · have HNE : Hid (Value.slice (some ⟨g, 0, none⟩) xs.length cap7 ≠ .slice none 0 0) := Lib.hid hne
      clear hne
      have hn : xs.length = q + 1 := by omega
      have hord := hp.ord (by omega) (by omega)
      have HO := Lib.hid hord
      have HN := Lib.hid hn
      clear hord hcell hn
      go_wp2_with fail
      go_ret
      exact ⟨_, rfl, HNE.out, xs, hcol, HO.out, by have := HN.out; omega⟩
end Go.Proofs.Ytlgonmnbedddaaa
