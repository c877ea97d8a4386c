/- Loose points and the core: plain numbers. -/
import Derived.Test.YtfhcbaamibipcaaDoorBitsOf
set_option linter.unusedVariables false
set_option linter.unusedSimpArgs false
namespace Go.Proofs.YtfhcbaamibipcaaDoor

def looseAt (cs : List Nat) (s p q : Nat) : Bool := decide (diff (cell cs p &&& s) (2 ^ p) = cell cs q &&& s) || decide (diff (cell (turnedN cs) p &&& s) (2 ^ p) = cell (turnedN cs) q &&& s)
def looseB (cs : List Nat) (s p : Nat) : Bool := (bitsOf (diff s (2 ^ p))).any fun q => looseAt cs s p q
def firstLoose (cs : List Nat) (s : Nat) : Option Nat := (bitsOf s).find? fun p => looseB cs s p
def coreGo (cs : List Nat) : Nat → Nat → Nat
  | 0, s => s
  | k + 1, s => match firstLoose cs s with
    | none => s
    | some p => coreGo cs k (diff s (2 ^ p))
/-- the first points of those that are alike -/
def firstsTo (cs : List Nat) (k : Nat) : Nat := gather (fun p => (List.range p).all fun k => decide (cell cs k ≠ cell cs p)) k
def firstsN (cs : List Nat) : Nat := firstsTo cs cs.length
def coreOf (cs : List Nat) (s : Nat) : Nat := coreGo cs s s
def coreN (cs : List Nat) : Nat := coreOf cs (firstsN cs)

theorem firstLoose_bit {cs : List Nat} {s p : Nat} (hs : s < 64) (h : firstLoose cs s = some p) : s.testBit p = true ∧ looseB cs s p = true := by
  unfold firstLoose at h
  exact ⟨(bitsOf_mem hs).1 (List.mem_of_find?_eq_some h), by have := List.find?_some h; simpa using this⟩
theorem coreGo_more {cs : List Nat} : ∀ k s, s < 64 → s ≤ k → coreGo cs (k + 1) s = coreGo cs k s
  | 0, s, _, h => by
    obtain rfl : s = 0 := by omega
    rfl
  | k + 1, s, hs, h => by
    show (match firstLoose cs s with | none => s | some p => coreGo cs (k + 1) (diff s (2 ^ p))) = (match firstLoose cs s with | none => s | some p => coreGo cs k (diff s (2 ^ p)))
    rcases hf : firstLoose cs s with _ | p
    · rfl
    · have h1 := diff_lt_self (firstLoose_bit hs hf).1
      exact coreGo_more k _ (by omega) (by omega)
theorem coreGo_same {cs : List Nat} {s : Nat} (hs : s < 64) : ∀ d k, s ≤ k → coreGo cs (k + d) s = coreGo cs k s
  | 0, k, h => rfl
  | d + 1, k, h => by rw [← Nat.add_assoc, coreGo_more _ _ hs (by omega), coreGo_same hs d k h]
theorem core_none {cs : List Nat} {s : Nat} (h : firstLoose cs s = none) : coreOf cs s = s := by
  unfold coreOf
  cases s with
  | zero => rfl
  | succ k =>
    show (match firstLoose cs (k + 1) with | none => k + 1 | some p => coreGo cs k (diff (k + 1) (2 ^ p))) = k + 1
    rw [h]
theorem core_some {cs : List Nat} {s p : Nat} (hs : s < 64) (h : firstLoose cs s = some p) : coreOf cs s = coreOf cs (diff s (2 ^ p)) := by
  have h1 := diff_lt_self (firstLoose_bit hs h).1
  unfold coreOf
  obtain ⟨k, rfl⟩ : ∃ k, s = k + 1 := ⟨s - 1, by omega⟩
  show (match firstLoose cs (k + 1) with | none => k + 1 | some p => coreGo cs k (diff (k + 1) (2 ^ p))) = _
  rw [h]
  show coreGo cs k (diff (k + 1) (2 ^ p)) = _
  have := coreGo_same (cs := cs) (s := diff (k + 1) (2 ^ p)) (by omega) (k - diff (k + 1) (2 ^ p)) (diff (k + 1) (2 ^ p)) (Nat.le_refl _)
  rwa [show diff (k + 1) (2 ^ p) + (k - diff (k + 1) (2 ^ p)) = k by omega] at this
/-- what holds of a set and stays as a loose point goes, holds of the core -/
theorem core_ind {cs : List Nat} {P : Nat → Prop} (hstep : ∀ s p, s < 64 → P s → s.testBit p = true → looseB cs s p = true → P (diff s (2 ^ p))) :
    ∀ k s, s ≤ k → s < 64 → P s → P (coreOf cs s) ∧ firstLoose cs (coreOf cs s) = none ∧ coreOf cs s < 64
  | k, s, hk, hs, hP => by
    rcases hf : firstLoose cs s with _ | p
    · rw [core_none hf]; exact ⟨hP, hf, hs⟩
    · have hb := firstLoose_bit hs hf
      have h1 := diff_lt_self hb.1
      rw [core_some hs hf]
      cases k with
      | zero => omega
      | succ k => exact core_ind hstep k _ (by omega) (by omega) (hstep s p hs hP hb.1 hb.2)
theorem firsts_lt (cs : List Nat) (k : Nat) : firstsTo cs k < 2 ^ k := gather_lt _ _
end Go.Proofs.YtfhcbaamibipcaaDoor
