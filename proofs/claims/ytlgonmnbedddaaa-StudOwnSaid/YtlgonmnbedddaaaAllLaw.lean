/- The clear orders, level by level and in depth: plain lists. -/
import Derived.Test.YtlgonmnbedddaaaCnt
import Derived.Test.YtlgonmnbedddaaaROrd
import Derived.Test.YtlgonmnbedddaaaPairLaw
set_option linter.unusedVariables false
set_option linter.unusedSimpArgs false
namespace Go.Proofs.Ytlgonmnbedddaaa

/-- one more row, as the reference does it -/
def stepAll (n : Nat) (l : List Int) (m : Nat) : List (List Int) := (List.range m).flatMap fun (r : Nat) => if (rowsB (l ++ [(r : Int)]) n && clearB (l ++ [(r : Int)])) = true then [l ++ [(r : Int)]] else []
def allTo (n : Nat) : Nat → List (List Int)
  | 0 => [[]]
  | i + 1 => (allTo n i).flatMap fun l => stepAll n l n
theorem stepAll_succ (n : Nat) (l : List Int) (m : Nat) : stepAll n l (m + 1) = stepAll n l m ++ if (rowsB (l ++ [(m : Int)]) n && clearB (l ++ [(m : Int)])) = true then [l ++ [(m : Int)]] else [] := by simp [stepAll, List.range_succ]
/-- one more row, as the program does it -/
def stepE (n : Nat) (l : List Int) : List (List Int) := (List.range n).flatMap fun (r : Nat) => if (r : Int) ∈ l then [] else if clearB (l ++ [(r : Int)]) then [l ++ [(r : Int)]] else []
theorem enumL_zero (n : Nat) (l : List Int) : enumL n 0 l = if clearB l then [l] else [] := rfl
theorem enumL_unfold (n d : Nat) (l : List Int) : enumL n (d + 1) l = if clearB l then (List.range n).flatMap fun (r : Nat) => if (r : Int) ∈ l then [] else enumL n d (l ++ [(r : Int)]) else [] := rfl
theorem enumL_step (n : Nat) : ∀ d l, enumL n (d + 1) l = (enumL n d l).flatMap (stepE n)
  | 0, l => by
    rw [enumL_unfold, enumL_zero]
    split
    · simp only [List.flatMap_cons, List.flatMap_nil, List.append_nil, stepE, enumL_zero]
    · rfl
  | d + 1, l => by
    rw [enumL_unfold, enumL_unfold n d l]
    split
    · rw [List.flatMap_assoc]
      congr 1
      funext r
      split
      · rfl
      · exact enumL_step n d _
    · rfl
theorem rowsB_snoc {n : Nat} {l : List Int} {r : Nat} (h : rowsB l n = true) (hr : r < n) : rowsB (l ++ [(r : Int)]) n = !(decide ((r : Int) ∈ l)) := by
  simp only [rowsB, decide_eq_true_eq] at h
  by_cases hm : (r : Int) ∈ l
  · simp only [hm, decide_true, Bool.not_true, rowsB, decide_eq_false_iff_not]
    rintro ⟨_, h2⟩
    rw [List.nodup_append] at h2
    exact h2.2.2 _ hm _ (by simp) rfl
  · simp only [hm, decide_false, Bool.not_false, rowsB, decide_eq_true_eq]
    refine ⟨fun x hx => ?_, ?_⟩
    · rcases List.mem_append.1 hx with hx | hx
      · exact h.1 x hx
      · simp at hx; subst hx; omega
    · rw [List.nodup_append]
      refine ⟨h.2, by simp, fun a ha b hb => ?_⟩
      simp at hb; subst hb; rintro rfl; exact hm ha
theorem stepAll_eq {n : Nat} {l : List Int} (h : rowsB l n = true) : stepAll n l n = stepE n l := by
  unfold stepAll stepE
  rw [List.flatMap_def, List.flatMap_def]
  congr 1
  refine List.map_congr_left fun r hr => ?_
  rw [List.mem_range] at hr
  rw [rowsB_snoc h hr]
  by_cases hm : (r : Int) ∈ l <;> simp [hm]
theorem allTo_rows (n : Nat) : ∀ i, ∀ l ∈ allTo n i, rowsB l n = true ∧ clearB l = true ∧ l.length = i
  | 0, l, h => by
    simp only [allTo, List.mem_singleton] at h; subst h
    refine ⟨by simp [rowsB], ?_, rfl⟩
    decide
  | i + 1, l, h => by
    simp only [allTo, List.mem_flatMap, stepAll] at h
    obtain ⟨l0, h1, r, hr, h2⟩ := h
    split at h2
    · rename_i h3
      simp only [List.mem_singleton] at h2; subst h2
      rw [Bool.and_eq_true] at h3
      exact ⟨h3.1, h3.2, by simp [(allTo_rows n i l0 h1).2.2]⟩
    · cases h2
theorem flatMap_congr_mem {α β : Type} {l : List α} {f g : α → List β} (h : ∀ x ∈ l, f x = g x) : l.flatMap f = l.flatMap g := by
  rw [List.flatMap_def, List.flatMap_def, List.map_congr_left h]
theorem allTo_enum (n : Nat) : ∀ i, allTo n i = enumL n i []
  | 0 => by
    have : clearB [] = true := by decide
    rw [enumL_zero, this]; rfl
  | i + 1 => by
    rw [enumL_step, ← allTo_enum n i]
    exact flatMap_congr_mem fun l hl => stepAll_eq (allTo_rows n i l hl).1
theorem all_clears (n : Nat) : allTo n n = clearsL n [] := by
  unfold clearsL; rw [allTo_enum]; rfl

/-! ### the lists are in ascending order -/
/-- lexicographically smaller, at the same length -/
def ltB : List Int → List Int → Bool
  | a :: u, b :: v => if a = b then ltB u v else decide (a < b)
  | _, _ => false
theorem ltB_append (p a b : List Int) : ltB (p ++ a) (p ++ b) = ltB a b := by
  induction p with
  | nil => rfl
  | cons x p ih => simp [ltB, ih]
theorem ltB_irrefl (a : List Int) : ltB a a = false := by
  induction a with
  | nil => rfl
  | cons x a ih => simp [ltB, ih]
theorem ltB_trans : ∀ {a b c : List Int}, ltB a b = true → ltB b c = true → ltB a c = true
  | [], _, _, h, _ => by simp [ltB] at h
  | _ :: _, [], _, h, _ => by simp [ltB] at h
  | _ :: _, _ :: _, [], _, h => by simp [ltB] at h
  | x :: a, y :: b, z :: c, h1, h2 => by
    simp only [ltB] at h1 h2 ⊢
    by_cases e1 : x = y
    · subst e1
      by_cases e2 : x = z
      · subst e2; simp only [↓reduceIte] at *; exact ltB_trans h1 h2
      · rw [if_neg e2] at h2 ⊢; exact h2
    · rw [if_neg e1] at h1
      by_cases e2 : y = z
      · subst e2; rw [if_neg e1]; exact h1
      · rw [if_neg e2] at h2
        simp only [decide_eq_true_eq] at h1 h2
        rw [if_neg (by omega)]; simp only [decide_eq_true_eq]; omega
theorem ltB_tri : ∀ {a b : List Int}, a.length = b.length → ltB a b = true ∨ a = b ∨ ltB b a = true
  | [], [], _ => .inr (.inl rfl)
  | x :: a, [], h => by simp at h
  | [], y :: b, h => by simp at h
  | x :: a, y :: b, h => by
    simp only [ltB]
    by_cases e : x = y
    · subst e
      rcases ltB_tri (a := a) (b := b) (by simpa using h) with h | h | h
      · left; simpa using h
      · right; left; rw [h]
      · right; right; simpa using h
    · rw [if_neg e, if_neg (fun h => e h.symm)]
      simp only [decide_eq_true_eq]
      rcases Int.lt_or_gt_of_ne e with h | h
      · exact .inl h
      · exact .inr (.inr h)
theorem ltB_asymm {a b : List Int} (h : ltB a b = true) : ltB b a = false := by
  rcases hb : ltB b a with _ | _
  · rfl
  · have := ltB_trans h hb; rw [ltB_irrefl] at this; cases this

theorem enumL_mem (n : Nat) : ∀ d l m, m ∈ enumL n d l → l <+: m ∧ m.length = l.length + d ∧ clearB m = true
  | 0, l, m, h => by
    rw [enumL_zero] at h
    split at h
    · simp only [List.mem_singleton] at h; subst h; exact ⟨List.prefix_rfl, rfl, by assumption⟩
    · cases h
  | d + 1, l, m, h => by
    rw [enumL_unfold] at h
    split at h
    · simp only [List.mem_flatMap, List.mem_range] at h
      obtain ⟨r, hr, h⟩ := h
      split at h
      · cases h
      · obtain ⟨h1, h2, h3⟩ := enumL_mem n d _ m h
        exact ⟨(List.prefix_append _ _).trans h1, by simp at h2; omega, h3⟩
    · cases h
theorem prefix_ltB {l a b : List Int} {r s : Int} (h1 : l ++ [r] <+: a) (h2 : l ++ [s] <+: b) (h : r < s) : ltB a b = true := by
  obtain ⟨ta, rfl⟩ := h1
  obtain ⟨tb, rfl⟩ := h2
  rw [List.append_assoc, List.append_assoc, ltB_append]
  simp only [List.cons_append, List.nil_append, ltB]
  rw [if_neg (by omega)]; simpa using h
theorem enumL_sorted (n : Nat) : ∀ d l, (enumL n d l).Pairwise (fun a b => ltB a b = true)
  | 0, l => by rw [enumL_zero]; split <;> simp
  | d + 1, l => by
    rw [enumL_unfold]
    split
    · rw [List.flatMap_def, List.pairwise_flatten]
      refine ⟨fun x hx => ?_, ?_⟩
      · rw [List.mem_map] at hx
        obtain ⟨r, _, rfl⟩ := hx
        split
        · exact List.Pairwise.nil
        · exact enumL_sorted n d _
      · rw [List.pairwise_map]
        refine List.Pairwise.imp_of_mem (R := (· < ·)) ?_ List.pairwise_lt_range
        intro r s hr hs hrs a ha b hb
        split at ha
        · cases ha
        · split at hb
          · cases hb
          · exact prefix_ltB (enumL_mem n d _ a ha).1 (enumL_mem n d _ b hb).1 (by omega)
    · exact List.Pairwise.nil
theorem clears_sorted (n : Nat) : (clearsL n []).Pairwise (fun a b => ltB a b = true) := enumL_sorted n _ _
theorem clears_mem {n : Nat} {m : List Int} (h : m ∈ clearsL n []) : rowsB m n = true ∧ clearB m = true ∧ m.length = n := by
  rw [← all_clears] at h; exact allTo_rows n n m h

/-! ### the lists with a beginning -/
theorem rowsB_prefix {a b : List Int} {n : Int} (h : a <+: b) (hb : rowsB b n = true) : rowsB a n = true := by
  simp only [rowsB, decide_eq_true_eq] at hb ⊢
  exact ⟨fun x hx => hb.1 x (h.subset hx), hb.2.sublist h.sublist⟩
theorem filter_none {α : Type} {p : α → Bool} {l : List α} (h : ∀ x ∈ l, p x = false) : l.filter p = [] := by
  rw [List.filter_eq_nil_iff]; intro x hx; simp [h x hx]
theorem prefix_same {a b c : List Int} {r s : Int} (h1 : a ++ [r] <+: c) (h2 : a ++ s :: b <+: c) : r = s := by
  obtain ⟨t1, rfl⟩ := h1
  obtain ⟨t2, h⟩ := h2
  rw [List.append_assoc, List.append_assoc, List.append_right_inj] at h
  simp at h; exact h.1.symm
theorem flatMap_one {α : Type} (f : Nat → List α) (n k : Nat) (hk : k < n) (h : ∀ r, r < n → r ≠ k → f r = []) : (List.range n).flatMap f = f k := by
  induction n with
  | zero => omega
  | succ n ih =>
    rw [List.range_succ, List.flatMap_append]
    simp only [List.flatMap_cons, List.flatMap_nil, List.append_nil]
    by_cases e : k = n
    · subst e
      have : (List.range k).flatMap f = [] := by
        rw [List.flatMap_eq_nil_iff]
        intro r hr; rw [List.mem_range] at hr; exact h r (by omega) (by omega)
      rw [this, List.nil_append]
    · rw [ih (by omega) (fun r hr hn => h r (by omega) hn), h n (by omega) (fun h => e h.symm), List.append_nil]
theorem enumL_start (n : Nat) : ∀ (s l : List Int) (d : Nat), rowsB (l ++ s) n = true → s.length ≤ d → (enumL n d l).filter (fun m => decide (l ++ s <+: m)) = enumL n (d - s.length) (l ++ s)
  | [], l, d, hr, hs => by
    simp only [List.append_nil, List.length_nil, Nat.sub_zero]
    rw [List.filter_eq_self]
    intro m hm; simpa using (enumL_mem n d l m hm).1
  | r :: s, l, 0, hr, hs => by simp at hs
  | r :: s, l, d + 1, hr, hs => by
    have hr0 := hr
    have e : l ++ r :: s = (l ++ [r]) ++ s := by simp
    rw [e] at hr ⊢
    simp only [List.length_cons, Nat.add_sub_add_right] at hs ⊢
    have ih := enumL_start n s (l ++ [r]) d hr (by omega)
    rw [← ih, enumL_unfold]
    by_cases hc : clearB l = true
    · rw [if_pos hc, List.filter_flatMap]
      simp only [rowsB, decide_eq_true_eq] at hr0
      have hrr := hr0.1 r (by simp)
      obtain ⟨k, rfl⟩ : ∃ k : Nat, r = k := ⟨r.toNat, by omega⟩
      have hn := hr0.2
      rw [List.nodup_append] at hn
      have hkl : (k : Int) ∉ l := fun hm => hn.2.2 _ hm _ (by simp) rfl
      rw [flatMap_one _ n k (by omega)]
      · rw [if_neg hkl]
      · intro q hq hqk
        split
        · rfl
        · refine filter_none fun m hm => ?_
          rw [decide_eq_false_iff_not]
          intro hp
          have h1 := (enumL_mem n d _ m hm).1
          rw [List.append_assoc] at hp
          have := prefix_same h1 hp
          omega
    · rw [if_neg hc]
      symm
      rw [List.filter_nil]
      refine filter_none fun m hm => ?_
      have := enumL_mem n d _ m hm
      exact absurd (clearB_prefix ((List.prefix_append _ _).trans this.1) this.2.2) hc
theorem clears_start {n : Nat} {s : List Int} (hr : rowsB s n = true) (hs : s.length ≤ n) : clearsL n s = (clearsL n []).filter (fun m => decide (s <+: m)) := by
  have := enumL_start n s [] n hr hs
  simp only [List.nil_append] at this
  exact this.symm
end Go.Proofs.Ytlgonmnbedddaaa
