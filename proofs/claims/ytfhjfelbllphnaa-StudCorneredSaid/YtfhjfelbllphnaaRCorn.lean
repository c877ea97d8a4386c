/- The reference's Cornered and Corners. -/
import Derived.Test.YtfhjfelbllphnaaCorn
import Derived.Test.YtfhjfelbllphnaaRClear
import Derived.Test.YtfhjfelbllphnaaTame
import Derived.Test.YtfhjfelbllphnaaTurnA
set_option linter.unusedVariables false
set_option linter.unusedSimpArgs false
namespace Go.Proofs.Ytfhjfelbllphnaa
open Go.RowKit

theorem list_ext_gi' {xs ys : List Int} (hl : xs.length = ys.length) (h : ∀ i, i < xs.length → gi xs i = gi ys i) : xs = ys := by
  refine List.ext_getElem hl fun i h1 h2 => ?_
  have := h i h1
  rwa [gi_lt h1, gi_lt h2] at this
def incTo (xs : List Int) (k : Nat) : List Int := (List.range xs.length).map fun i => gi xs i + (if i < k then 1 else 0)
theorem incTo_len (xs : List Int) (k : Nat) : (incTo xs k).length = xs.length := by simp [incTo]
theorem gi_incTo {xs : List Int} {k i : Nat} (h : i < xs.length) : gi (incTo xs k) i = gi xs i + (if i < k then 1 else 0) := by
  rw [gi_lt (by rw [incTo_len]; exact h)]; simp [incTo]
theorem gi_set {xs : List Int} {k : Nat} {y : Int} {i : Nat} (h : i < xs.length) : gi (xs.set k y) i = if k = i then y else gi xs i := by
  rw [gi_lt (by simpa using h), List.getElem_set, gi_lt h]
theorem incTo_zero (xs : List Int) : incTo xs 0 = xs := list_ext_gi' (incTo_len _ _) fun i hi => by
  rw [incTo_len] at hi; rw [gi_incTo hi]; simp
theorem incTo_set {xs : List Int} {k : Nat} (hk : k < xs.length) : (incTo xs k).set k (gi xs k + 1) = incTo xs (k + 1) := list_ext_gi' (by simp [incTo_len]) fun i hi => by
  rw [List.length_set, incTo_len] at hi
  rw [gi_set (by rw [incTo_len]; exact hi), gi_incTo hi, gi_incTo hi]
  by_cases e : k = i
  · subst e; simp
  · rw [if_neg e]
    by_cases h2 : i < k
    · rw [if_pos h2, if_pos (by omega)]
    · rw [if_neg h2, if_neg (by omega)]
theorem incTo_all (xs : List Int) : incTo xs xs.length = mRow xs 0 xs.length := list_ext_gi' (by rw [incTo_len, mRow_len]) fun i hi => by
  rw [incTo_len] at hi
  rw [gi_incTo hi, if_pos hi, gi_lt (xs := mRow xs 0 xs.length) (by rw [mRow_len]; exact hi)]; simp [mRow]
theorem mRow_one (xs : List Int) : mRow xs 1 xs.length = xs := list_ext_gi' (mRow_len _ _ _) fun i hi => by
  rw [gi_lt hi]; simp [mRow]
theorem col_stored {w0 w : World} {g cap n : Nat} {xs : List Int} (h : Col w0 w (.slice (some ⟨g, 0, none⟩) n cap) xs) (hn : xs.length = n) (j : Nat) (y : Int) :
    Col w0 (w.setCell ⟨g, j, none⟩ (.int .i64 y)) (.slice (some ⟨g, 0, none⟩) n cap) (xs.set j y) := by
  subst hn
  have h1 := h.own.stored j (.int .i64 y)
  have hg : w0.heap.size ≤ g := (h.own.lt g rfl).1
  refine ⟨?_, h.below.setCell hg _⟩
  have := h1.1
  rw [List.length_set, List.map_set]
  exact this
theorem col_lit (w : World) (y : Int) : Col w (w.alloc (.cells #[.int .i64 y] 3)) (.slice (some ⟨w.heap.size, 0, none⟩) 1 1) [y] :=
  ⟨⟨rfl, .inr ⟨w.heap.size, 1, #[.int .i64 y], rfl, Nat.le_refl _, heap_alloc_new _ _, Nat.le_refl _, by simp [maxLen], rfl, rfl⟩⟩, (Below.refl _ _).alloc (Nat.le_refl _) _⟩

/-- 'append(nil, ys...)': a copy -/
theorem append_copy {ops : Array Oper} {rest : List Oper} {o : Oper} {a : Act} {w : World} {Q : Exit → Act → World → Prop} (hgd : o.guard = none) (s x : Operand)
    (ho : o.op = .call { callee := .builtin .append, args := #[s, x], argTypes := #[22, 22] }) {ys : List Int} (hs : a.eval s = .slice none 0 0)
    {ad : Addr} {c : Nat} (hx : a.eval x = .slice (some ad) ys.length c) (hr : Reads w (.slice (some ad) ys.length c) ys) (h1 : 1 ≤ ys.length) (hlen2 : ys.length ≤ 1000000000)
    (h : ∀ g cap w', Col w w' (.slice (some ⟨g, 0, none⟩) ys.length cap) ys → wpList Try.prog ops Q rest (a.put o.dst (.slice (some ⟨g, 0, none⟩) ys.length cap)) w') : wpList Try.prog ops Q (o :: rest) a w := by
  refine append_ints hgd s x ho (Col.nil w) hs hx hr (by simp) hlen2 ?_
  intro v1 w1 hc1 hnil
  rw [List.nil_append] at hc1
  have hne : v1 ≠ .slice none 0 0 := fun e => by
    rw [e] at hc1
    obtain ⟨_, _, h, _⟩ := hc1.reads
    simp at h; omega
  obtain ⟨g, cap1, rfl⟩ := hc1.some hne
  exact h _ _ _ hc1

set_option maxRecDepth 100000 in
set_option maxHeartbeats 3200000 in
theorem refCornered_even (sl : Value) (xs : List Int) (c : Nat) (w : World) (hr : Reads w sl xs) (ho : ordB xs = true) (hc : c = 0 ∨ c = 2) :
    Calls Try.prog 7 #[sl, .int .i64 c] w fun e w' => ∃ v', e = .returned v' ∧ Col w w' v' (cornerL xs c) := by
  obtain ⟨hl1, hl2⟩ := ordB_len ho
  have HR := Lib.hid (ordB_rng ho)
  have hr0 := hr
  obtain ⟨a, cap, rfl, hcp, hcm, hcell⟩ := hr.open
  obtain ⟨b, off, rfl, _, _⟩ := hcell 0 (by omega)
  have hcap : cap ≤ 9223372036854775807 := by unfold maxLen at hcm; omega
  have e1 : (c : Int) % 2 = 0 := by omega
  have hrow : cornerL xs c = if c < 2 then (0 : Int) :: mRow xs 0 xs.length else mRow xs 0 xs.length ++ [(0 : Int)] := by
    unfold cornerL
    rcases hc with rfl | rfl <;> simp
  have HROW := Lib.hid hrow
  clear ho hr hcell hcm hrow
  go_enter Try.func7, Try.ntmps7
  go_wp2_with (at_builtin; refine append_ints rfl _ _ rfl (Col.nil w) rfl (ad := ⟨b, off, none⟩) (c := cap) (ys := xs) rfl hr0 (by simp) (by omega) ?_; intro v1 w1 hc1 hnil)
  rw [List.nil_append] at hc1
  have hne : v1 ≠ .slice none 0 0 := fun e => by
    rw [e] at hc1
    obtain ⟨_, _, h, _⟩ := hc1.reads
    simp at h; omega
  obtain ⟨g, cap1, rfl⟩ := hc1.some hne
  clear hne hnil
  try simp only [e1]
  go_loopw [8] (fun i wr => ∃ k : Nat, k ≤ xs.length ∧ i = .int .i64 k ∧ Col w wr (.slice (some ⟨g, 0, none⟩) xs.length cap1) (incTo xs k)) (fun i _ => xs.length - (intOf i).toNat)
  case atStart => exact ⟨0, by omega, rfl, by rw [incTo_zero]; exact hc1⟩
  case round =>
    obtain ⟨k, hk, rfl, hcol⟩ := hrel
    clear hc1
    by_cases hkn : k < xs.length
    · have hlen := incTo_len xs k
      have hgi : gi (incTo xs k) k = gi xs k := by rw [gi_incTo hkn, if_neg (by omega)]; omega
      have hst := col_stored hcol hlen k (gi xs k + 1)
      rw [incTo_set hkn] at hst
      have hfr : wr.frozen? ⟨g, k, none⟩ = false := by
        have h := hcol.own
        rw [hlen] at h
        exact h.frozenAt k
      have hce : wr.cell? ⟨g, k, none⟩ = some (.int .i64 (gi xs k)) := by
        have h := hcol.own
        rw [hlen] at h
        have h2 := h.cellAt k (by omega)
        rw [h2, ← hgi, gi_lt (by rw [hlen]; exact hkn)]
        simp [hlen, hkn]
      have HST := Lib.hid hst
      obtain ⟨r1, r2⟩ := HR.out k
      have k0 : (0 : Int) ≤ (k : Int) := by omega
      have k1 : (k : Int) < (xs.length : Int) := by omega
      clear hlen hgi hst hcol
      go_wp2_with fail
      go_roundw
      case rel => exact ⟨k + 1, by omega, by go_num, HST.out⟩
      case measure => simp [intOf]; omega
    · obtain rfl : k = xs.length := by omega
      rw [incTo_all] at hcol
      have hml : (mRow xs 0 xs.length).length = xs.length := mRow_len _ _ _
      have HML := Lib.hid hml
      have HC := Lib.hid hcol
      clear hml hcol
      by_cases h2 : c < 2
      · have t2 : decide ((c : Int) < 2) = true := by simp; omega
        have HRR : Hid (cornerL xs c = (0 : Int) :: mRow xs 0 xs.length) := Lib.hid (by rw [HROW.out, if_pos h2])
        clear h2
        go_wp2_with (at_builtin; refine append_ints rfl _ _ rfl (col_lit wr 0) rfl (ad := ⟨g, 0, none⟩) (c := cap1) (ys := mRow xs 0 xs.length) (by rw [HML.out]; rfl) (by rw [HML.out]; exact (by have := HC.out.reads; exact this.below ((Below.refl _ _).alloc (Nat.le_refl _) _))) (by simp) (by rw [HML.out]; omega) ?_; intro v2 w2 hc2 _)
        go_ret
        exact ⟨_, rfl, by rw [HRR.out]; exact hc2.lower HC.out.below⟩
      · have t2 : decide ((c : Int) < 2) = false := by simp; omega
        have HRR : Hid (cornerL xs c = mRow xs 0 xs.length ++ [(0 : Int)]) := Lib.hid (by rw [HROW.out, if_neg h2])
        clear h2
        go_wp2_with (at_builtin; refine append_int rfl _ _ rfl HC.out rfl _ rfl (by rw [HML.out]; omega) ?_; intro v2 w2 hc2 _)
        go_ret
        exact ⟨_, rfl, by rw [HRR.out]; exact hc2⟩

set_option maxRecDepth 100000 in
set_option maxHeartbeats 1600000 in
theorem refCornered_odd (sl : Value) (xs : List Int) (c : Nat) (w : World) (hr : Reads w sl xs) (ho : ordB xs = true) (hc : c = 1 ∨ c = 3) :
    Calls Try.prog 7 #[sl, .int .i64 c] w fun e w' => ∃ v', e = .returned v' ∧ Col w w' v' (cornerL xs c) := by
  obtain ⟨hl1, hl2⟩ := ordB_len ho
  have hr0 := hr
  obtain ⟨a, cap, rfl, hcp, hcm, hcell⟩ := hr.open
  obtain ⟨b, off, rfl, _, _⟩ := hcell 0 (by omega)
  have hcap : cap ≤ 9223372036854775807 := by unfold maxLen at hcm; omega
  have e1 : (c : Int) % 2 = 1 := by omega
  have hrow : cornerL xs c = if c < 2 then (xs.length : Int) :: xs else xs ++ [(xs.length : Int)] := by
    unfold cornerL
    rcases hc with rfl | rfl <;> simp [mRow_one]
  have HROW := Lib.hid hrow
  clear ho hr hcell hcm hrow
  by_cases h2 : c < 2
  · have t2 : decide ((c : Int) < 2) = true := by simp; omega
    have HRR : Hid (cornerL xs c = (xs.length : Int) :: xs) := Lib.hid (by rw [HROW.out, if_pos h2])
    clear h2
    go_enter Try.func7, Try.ntmps7
    go_wp2_with (first
      | (at_builtin; refine append_copy rfl _ _ rfl rfl (ad := ⟨b, off, none⟩) (c := cap) (ys := xs) rfl hr0 (by omega) (by omega) ?_; intro g cap1 w1 hc1; have HC := Lib.hid hc1; clear hc1)
      | (at_builtin; refine append_ints rfl _ _ rfl (col_lit w1 (xs.length : Int)) rfl (ad := ⟨g, 0, none⟩) (c := cap1) (ys := xs) rfl (by have := HC.out.reads; exact this.below ((Below.refl _ _).alloc (Nat.le_refl _) _)) (by simp) (by omega) ?_; intro v2 w2 hc2 _))
    go_ret
    exact ⟨_, rfl, by rw [HRR.out]; exact hc2.lower HC.out.below⟩
  · have t2 : decide ((c : Int) < 2) = false := by simp; omega
    have HRR : Hid (cornerL xs c = xs ++ [(xs.length : Int)]) := Lib.hid (by rw [HROW.out, if_neg h2])
    clear h2
    go_enter Try.func7, Try.ntmps7
    go_wp2_with (first
      | (at_builtin; refine append_copy rfl _ _ rfl rfl (ad := ⟨b, off, none⟩) (c := cap) (ys := xs) rfl hr0 (by omega) (by omega) ?_; intro g cap1 w1 hc1; have HC := Lib.hid hc1; clear hc1)
      | (at_builtin; refine append_int rfl _ _ rfl HC.out rfl _ rfl (by omega) ?_; intro v2 w2 hc2 _))
    go_ret
    exact ⟨_, rfl, by rw [HRR.out]; exact hc2⟩
theorem refCornered_any (sl : Value) (xs : List Int) (c : Nat) (w : World) (hr : Reads w sl xs) (ho : ordB xs = true) (hc : c < 4) :
    Calls Try.prog 7 #[sl, .int .i64 c] w fun e w' => ∃ v', e = .returned v' ∧ Col w w' v' (cornerL xs c) := by
  have : (c = 0 ∨ c = 2) ∨ (c = 1 ∨ c = 3) := by omega
  rcases this with h | h
  · exact refCornered_even sl xs c w hr ho h
  · exact refCornered_odd sl xs c w hr ho h

end Go.Proofs.Ytfhjfelbllphnaa
