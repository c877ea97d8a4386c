/- turned: the symmetry by its number. -/
import Derived.Test.YtfhjfelbllphnaaTurnA
import Derived.Test.YtfhjfelbllphnaaMat
import Derived.Test.YtfhjfelbllphnaaRev
import Derived.Laws.EntriesVeiled
set_option linter.unusedVariables false
set_option linter.unusedSimpArgs false
namespace Go.Proofs.Ytfhjfelbllphnaa
open Go.RowKit

theorem ordB_mk {xs : List Int} {n : Nat} (hl : xs.length = n) (h1 : 1 ≤ n) (h2 : n ≤ 16) (hr : ∀ i, i < n → 0 ≤ gi xs i ∧ gi xs i < n) (hd : ∀ i k, i < k → k < n → gi xs i ≠ gi xs k) : ordB xs = true := by
  simp only [ordB, decide_eq_true_eq]
  subst hl
  refine ⟨h1, h2, fun x hx => ?_, ?_⟩
  · obtain ⟨j, hj, rfl⟩ := List.getElem_of_mem hx
    have := hr j hj; rwa [gi_lt hj] at this
  · rw [List.nodup_iff_pairwise_ne, List.pairwise_iff_getElem]
    intro i j hi hj hij
    have := hd i j hij hj
    rwa [gi_lt hi, gi_lt hj] at this
theorem ordB_dist {xs : List Int} (ho : ordB xs = true) {i k : Nat} (hik : i < k) (hk : k < xs.length) : gi xs i ≠ gi xs k := by
  simp only [ordB, decide_eq_true_eq] at ho
  have h := ho.2.2.2
  rw [List.nodup_iff_pairwise_ne, List.pairwise_iff_getElem] at h
  rw [gi_lt hk, gi_lt (by omega)]
  exact h i k (by omega) hk hik

theorem gi_mir {xs : List Int} {i : Nat} (hi : i < xs.length) : gi (mirTo xs xs.length) i = (xs.length : Int) - 1 - gi xs i := by
  rw [gi_lt (by rw [mirTo_len (Nat.le_refl _)]; exact hi), gi_lt hi]; simp [mirTo]
theorem excL_len (xs : List Int) : (excL xs).length = xs.length := by simp [excL]
theorem gi_exc {xs : List Int} {i : Nat} (hi : i < xs.length) : gi (excL xs) i = (xs.idxOf (i : Int) : Nat) := by
  rw [gi_lt (by rw [excL_len]; exact hi)]; simp [excL]
theorem gi_rev {xs : List Int} {i : Nat} (hi : i < xs.length) : gi xs.reverse i = gi xs (xs.length - 1 - i) := by
  rw [gi_lt (by simpa using hi), gi_lt (by omega), List.getElem_reverse]

theorem ord_rev {xs : List Int} (ho : ordB xs = true) : ordB xs.reverse = true := by
  obtain ⟨hl1, hl2⟩ := ordB_len ho
  refine ordB_mk (n := xs.length) (by simp) hl1 hl2 (fun i hi => ?_) (fun i k hik hk => ?_)
  · rw [gi_rev hi]; have := ordB_under ho (xs.length - 1 - i); omega
  · rw [gi_rev hk, gi_rev (by omega)]; exact (ordB_dist ho (by omega) (by omega)).symm
theorem ord_mir {xs : List Int} (ho : ordB xs = true) : ordB (mirTo xs xs.length) = true := by
  obtain ⟨hl1, hl2⟩ := ordB_len ho
  refine ordB_mk (mirTo_len (Nat.le_refl _)) hl1 hl2 (fun i hi => ?_) (fun i k hik hk => ?_)
  · rw [gi_mir hi]; have := ordB_under ho i; omega
  · rw [gi_mir hk, gi_mir (by omega)]; have := ordB_dist ho hik hk; omega
theorem exc_spec {xs : List Int} (ho : ordB xs = true) {j : Nat} (hj : j < xs.length) : xs.idxOf (j : Int) < xs.length ∧ gi xs (xs.idxOf (j : Int)) = j := by
  have hm := perm_mem ho hj
  have h1 := List.idxOf_lt_length_of_mem hm
  exact ⟨h1, by rw [gi_lt h1]; exact List.getElem_idxOf _⟩
theorem ord_exc {xs : List Int} (ho : ordB xs = true) : ordB (excL xs) = true := by
  obtain ⟨hl1, hl2⟩ := ordB_len ho
  refine ordB_mk (excL_len _) hl1 hl2 (fun i hi => ?_) (fun i k hik hk => ?_)
  · rw [gi_exc hi]; have := (exc_spec ho hi).1; omega
  · rw [gi_exc hk, gi_exc (by omega)]
    intro he
    have h1 := (exc_spec ho hk).2
    have h2 := (exc_spec ho (show i < xs.length by omega)).2
    have h3 : xs.idxOf (i : Int) = xs.idxOf (k : Int) := by omega
    rw [h3] at h2
    omega

def stageF : Nat → List Int → List Int
  | 0, ys => ys.reverse
  | 1, ys => mirTo ys ys.length
  | _, ys => excL ys
def stage (xs : List Int) (s : Nat) : Nat → List Int
  | 0 => xs
  | k + 1 => if s.testBit k = true then stageF k (stage xs s k) else stage xs s k
def turnL (xs : List Int) (s : Nat) : List Int := stage xs s 3
theorem ord_stageF {ys : List Int} (k : Nat) (ho : ordB ys = true) : ordB (stageF k ys) = true := by
  unfold stageF
  split
  · exact ord_rev ho
  · exact ord_mir ho
  · exact ord_exc ho
theorem len_stageF (ys : List Int) (k : Nat) : (stageF k ys).length = ys.length := by
  unfold stageF
  split
  · simp
  · exact mirTo_len (Nat.le_refl _)
  · exact excL_len _
theorem ord_stage {xs : List Int} (ho : ordB xs = true) (s : Nat) : ∀ k, ordB (stage xs s k) = true
  | 0 => ho
  | k + 1 => by
    unfold stage
    split
    · exact ord_stageF k (ord_stage ho s k)
    · exact ord_stage ho s k
theorem len_stage (xs : List Int) (s : Nat) : ∀ k, (stage xs s k).length = xs.length
  | 0 => rfl
  | k + 1 => by
    unfold stage
    split
    · rw [len_stageF, len_stage xs s k]
    · exact len_stage xs s k
theorem stage_yes {xs : List Int} {s k : Nat} (h : s.testBit k = true) : stage xs s (k + 1) = stageF k (stage xs s k) := by rw [stage, if_pos h]
theorem stage_no {xs : List Int} {s k : Nat} (h : s.testBit k = false) : stage xs s (k + 1) = stage xs s k := by rw [stage, if_neg (by simp [h])]

/-- 'v' reads 'xs'; where 'T' is so, it is a row in memory that holds ints alone -/
def RF (T : Prop) (w : World) (v : Value) (xs : List Int) : Prop := Reads w v xs ∧ (T → OwnRow 0 w v xs)
theorem RF.below {T : Prop} {w w' : World} {v : Value} {xs : List Int} (h : RF T w v xs) (hb : Below w.heap.size w w') : RF T w' v xs := ⟨h.1.below hb, fun t => (h.2 t).below hb⟩
theorem RF.own {T : Prop} {B : Nat} {w : World} {v : Value} {xs : List Int} (h : OwnRow B w v xs) : RF T w v xs := ⟨h.reads, fun _ => h.mono (Nat.zero_le _)⟩

theorem stage_no_of {T : Prop} {w : World} {v : Value} {xs : List Int} {s k : Nat} (h : RF T w v (stage xs s k)) (hb : s.testBit k = false) : RF T w v (stage xs s (k + 1)) := by rw [stage_no hb]; exact h
theorem stage_yes_of {T : Prop} {w : World} {v : Value} {xs : List Int} {s k : Nat} (h : RF T w v (stageF k (stage xs s k))) (hb : s.testBit k = true) : RF T w v (stage xs s (k + 1)) := by rw [stage_yes hb]; exact h

end Go.Proofs.Ytfhjfelbllphnaa
