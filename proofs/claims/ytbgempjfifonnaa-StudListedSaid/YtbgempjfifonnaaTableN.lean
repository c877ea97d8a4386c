/- How many clear orders there are: counted over numbers. -/
import Derived.Test.YtbgempjfifonnaaAllLaw
set_option linter.unusedVariables false
set_option linter.unusedSimpArgs false
namespace Go.Proofs.Ytbgempjfifonnaa

/-- a further row makes no step twice -/
def newOk (l : List Nat) (p r : Nat) : Bool := (List.range p).all fun d => (List.range (p - (d + 1))).all fun i => !(Nat.beq (r + l.getD i 0) (l.getD (i + (d + 1)) 0 + l.getD (p - (d + 1)) 0))
def cntN (n : Nat) : Nat → List Nat → Nat → Nat
  | 0, _, _ => 1
  | d + 1, l, p => ((List.range n).map fun r => if l.elem r then 0 else if newOk l p r then cntN n d (l ++ [r]) (p + 1) else 0).sum
def toI (l : List Nat) : List Int := l.map fun (x : Nat) => (x : Int)
theorem toI_snoc (l : List Nat) (r : Nat) : toI (l ++ [r]) = toI l ++ [(r : Int)] := by simp [toI]
theorem toI_len (l : List Nat) : (toI l).length = l.length := by simp [toI]
theorem gi_toI (l : List Nat) (k : Nat) : gi (toI l) k = ((l.getD k 0 : Nat) : Int) := by
  unfold gi toI
  by_cases h : k < l.length
  · simp [h]
  · simp [List.getElem?_eq_none (Nat.le_of_not_lt h)]
theorem mem_toI {l : List Nat} {r : Nat} : (r : Int) ∈ toI l ↔ l.elem r = true := by
  simp only [toI, List.mem_map, List.elem_eq_mem, decide_eq_true_eq]
  constructor
  · rintro ⟨a, h1, h2⟩
    have : a = r := by omega
    rwa [← this]
  · intro h; exact ⟨r, h, rfl⟩
theorem gi_snoc_lt {l : List Int} {r : Int} {j : Nat} (h : j < l.length) : gi (l ++ [r]) j = gi l j := by simp [gi, List.getElem?_append_left h]
theorem gi_snoc_eq {l : List Int} {r : Int} {j : Nat} (h : j = l.length) : gi (l ++ [r]) j = r := by subst h; simp [gi]
theorem newOk_iff {l : List Nat} {p r : Nat} : newOk l p r = true ↔ ∀ d, 0 < d → d ≤ p → ∀ i, i < p - d → r + l.getD i 0 ≠ l.getD (i + d) 0 + l.getD (p - d) 0 := by
  simp only [newOk, List.all_eq_true, List.mem_range, Bool.not_eq_true']
  constructor
  · intro h d hd hdp i hi e
    have := h (d - 1) (by omega) i (by rw [show d - 1 + 1 = d by omega]; exact hi)
    rw [show d - 1 + 1 = d by omega] at this
    rw [e, Nat.beq_refl] at this
    cases this
  · intro h d hd i hi
    have := h (d + 1) (by omega) (by omega) i hi
    rcases hb : Nat.beq (r + l.getD i 0) (l.getD (i + (d + 1)) 0 + l.getD (p - (d + 1)) 0) with _ | _
    · rfl
    · exact absurd (Nat.eq_of_beq_eq_true hb) this
theorem clear_snoc {l : List Nat} (h : clearB (toI l) = true) (r : Nat) : clearB (toI (l ++ [r])) = newOk l l.length r := by
  rw [Bool.eq_iff_iff, clearB_iff, newOk_iff, toI_snoc]
  rw [clearB_iff] at h
  have hl := toI_len l
  simp only [List.length_append, List.length_singleton]
  constructor
  · intro H d hd hdp i hi e
    have := H i d (l.length - d) hd (by omega) (by omega)
    rw [gi_snoc_lt (by omega), gi_snoc_lt (by omega), gi_snoc_eq (by omega), gi_snoc_lt (by omega), gi_toI, gi_toI, gi_toI] at this
    omega
  · intro H i d k hd hik hk
    by_cases hlt : k + d < (toI l).length
    · rw [gi_snoc_lt (by omega), gi_snoc_lt (by omega), gi_snoc_lt hlt, gi_snoc_lt (by omega)]
      exact h i d k hd hik hlt
    · have hke : k = l.length - d := by omega
      have := H d hd (by omega) i (by omega)
      rw [gi_snoc_lt (by omega), gi_snoc_lt (by omega), gi_snoc_eq (by omega), gi_snoc_lt (by omega), gi_toI, gi_toI, gi_toI, hke]
      omega
theorem enum_cnt (n : Nat) : ∀ d (l : List Nat), clearB (toI l) = true → (enumL n d (toI l)).length = cntN n d l l.length
  | 0, l, h => by rw [enumL_zero, h]; rfl
  | d + 1, l, h => by
    rw [enumL_unfold, h, if_pos rfl, List.length_flatMap]
    unfold cntN
    congr 1
    refine List.map_congr_left fun r hr => ?_
    by_cases hm : l.elem r = true
    · rw [if_pos (mem_toI.2 hm), if_pos hm]; rfl
    · rw [if_neg (fun h => hm (mem_toI.1 h)), if_neg hm, ← toI_snoc]
      have hcs := clear_snoc h r
      rcases hn : newOk l l.length r with _ | _
      · rw [hn] at hcs
        have : enumL n d (toI (l ++ [r])) = [] := by
          cases d with
          | zero => rw [enumL_zero, hcs]; rfl
          | succ d => rw [enumL_unfold, hcs]; rfl
        rw [this]; rfl
      · rw [hn] at hcs
        have := enum_cnt n d (l ++ [r]) hcs
        rw [this]; simp
theorem clears_cnt (n : Nat) : (clearsL n []).length = cntN n n [] 0 := enum_cnt n n [] (by decide)
theorem count1 : cntN 1 1 [] 0 = 1 := by kernel_rfl
theorem count2 : cntN 2 2 [] 0 = 2 := by kernel_rfl
theorem count3 : cntN 3 3 [] 0 = 4 := by kernel_rfl
theorem count4 : cntN 4 4 [] 0 = 12 := by kernel_rfl
theorem count5 : cntN 5 5 [] 0 = 40 := by kernel_rfl
theorem count6 : cntN 6 6 [] 0 = 116 := by kernel_rfl
theorem count7 : cntN 7 7 [] 0 = 200 := by kernel_rfl
def tableN (n : Nat) : Nat := [0, 1, 2, 4, 12, 40, 116, 200].getD n 0
theorem table_all {n : Nat} (h1 : 1 ≤ n) (h7 : n ≤ 7) : (allTo n n).length = tableN n := by
  rw [all_clears, clears_cnt]
  have : n = 1 ∨ n = 2 ∨ n = 3 ∨ n = 4 ∨ n = 5 ∨ n = 6 ∨ n = 7 := by omega
  rcases this with rfl | rfl | rfl | rfl | rfl | rfl | rfl
  · exact count1
  · exact count2
  · exact count3
  · exact count4
  · exact count5
  · exact count6
  · exact count7
end Go.Proofs.Ytbgempjfifonnaa
