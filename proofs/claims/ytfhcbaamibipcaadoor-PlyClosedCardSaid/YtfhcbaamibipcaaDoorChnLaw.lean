/- Chains of a plain space: counted downwards and upwards. -/
import Derived.Test.YtfhcbaamibipcaaDoorChainLaw
import Derived.Test.YtfhcbaamibipcaaDoorTurnLaw
set_option linter.unusedVariables false
set_option linter.unusedSimpArgs false
namespace Go.Proofs.YtfhcbaamibipcaaDoor

def plainB (cs : List Nat) : Bool := (List.range cs.length).all fun i => (List.range i).all fun k => decide (cell cs k ≠ cell cs i)
theorem plain_iff {cs : List Nat} : plainB cs = true ↔ ∀ i k, i < cs.length → k < i → cell cs k ≠ cell cs i := by
  unfold plainB
  simp only [List.all_eq_true, List.mem_range, decide_eq_true_eq]
  exact ⟨fun h i k hi hk => h i hi k hk, fun h i hi k hk => h i k hi hk⟩
theorem plain_ne {cs : List Nat} (hp : plainB cs = true) {i k : Nat} (hi : i < cs.length) (hk : k < cs.length) (hne : i ≠ k) : cell cs i ≠ cell cs k := by
  by_cases h : i < k
  · exact plain_iff.1 hp k i hk h
  · exact (plain_iff.1 hp i k hi (by omega)).symm
/-- q is below p -/
def ltP (cs : List Nat) (q p : Nat) : Bool := decide (q ≠ p) && (cell cs p).testBit q
theorem lt_less {cs : List Nat} (hs : spaceB cs = true) (hp : plainB cs = true) {q p : Nat} (hq : q < cs.length) (hpn : p < cs.length) (h : ltP cs q p = true) : cell cs q < cell cs p := by
  unfold ltP at h
  rw [Bool.and_eq_true, decide_eq_true_eq] at h
  have h1 := sub_and ((space_iff.1 hs p hpn).2 q hq h.2)
  have h2 := plain_ne hp hq hpn h.1
  have h3 : cell cs q &&& cell cs p ≤ cell cs p := Nat.and_le_right
  omega

def dnF (cs : List Nat) : Nat → Nat → Int
  | 0, _ => 0
  | k + 1, p => 1 - sumTo (fun q => if ltP cs q p = true then dnF cs k q else 0) cs.length
def upF (cs : List Nat) : Nat → Nat → Int
  | 0, _ => 0
  | k + 1, p => 1 - sumTo (fun q => if ltP cs p q = true then upF cs k q else 0) cs.length
theorem dn_stable {cs : List Nat} (hs : spaceB cs = true) (hp : plainB cs = true) : ∀ k p, p < cs.length → cell cs p < k → dnF cs (k + 1) p = dnF cs k p
  | 0, p, _, h => by omega
  | k + 1, p, hpn, h => by
    show 1 - sumTo (fun q => if ltP cs q p = true then dnF cs (k + 1) q else 0) cs.length = 1 - sumTo (fun q => if ltP cs q p = true then dnF cs k q else 0) cs.length
    congr 1
    refine sumTo_same _ fun q hq => ?_
    by_cases hl : ltP cs q p = true
    · have := lt_less hs hp hq hpn hl
      rw [if_pos hl, if_pos hl, dn_stable hs hp k q hq (by omega)]
    · rw [if_neg hl, if_neg hl]
theorem up_stable {cs : List Nat} (hs : spaceB cs = true) (hp : plainB cs = true) {B : Nat} (hB : ∀ p, cell cs p < B) : ∀ k p, p < cs.length → B - cell cs p < k → upF cs (k + 1) p = upF cs k p
  | 0, p, _, h => by omega
  | k + 1, p, hpn, h => by
    show 1 - sumTo (fun q => if ltP cs p q = true then upF cs (k + 1) q else 0) cs.length = 1 - sumTo (fun q => if ltP cs p q = true then upF cs k q else 0) cs.length
    congr 1
    refine sumTo_same _ fun q hq => ?_
    by_cases hl : ltP cs p q = true
    · have h1 := lt_less hs hp hpn hq hl
      have h2 := hB q
      rw [if_pos hl, if_pos hl, up_stable hs hp hB k q hq (by omega)]
    · rw [if_neg hl, if_neg hl]
theorem dn_more {cs : List Nat} (hs : spaceB cs = true) (hp : plainB cs = true) {p k : Nat} (hpn : p < cs.length) (h : cell cs p < k) : ∀ d, dnF cs (k + d) p = dnF cs k p
  | 0 => rfl
  | d + 1 => by rw [show k + (d + 1) = (k + d) + 1 by omega, dn_stable hs hp _ p hpn (by omega), dn_more hs hp hpn h d]
/-- the numbers from below and from above have the same sum -/
theorem chains_same {cs : List Nat} (hs : spaceB cs = true) (hp : plainB cs = true) (hc : Codes cs) {k m : Nat} (hk : 2 ^ cs.length ≤ k) (hm : 2 ^ cs.length < m) : sumTo (dnF cs k) cs.length = sumTo (upF cs m) cs.length := by
  refine chains_dual cs.length (fun q p => ltP cs q p) _ _ (fun p hpn => ?_) (fun p hpn => ?_)
  · have h1 := hc.2.2 p
    rw [← dn_stable hs hp k p hpn (by omega)]
    show (1 - sumTo (fun q => if ltP cs q p = true then dnF cs k q else 0) cs.length) + _ = 1
    omega
  · rw [← up_stable (B := 2 ^ cs.length) hs hp hc.2.2 m p hpn (Nat.lt_of_le_of_lt (Nat.sub_le _ _) hm)]
    show (1 - sumTo (fun q => if ltP cs p q = true then upF cs m q else 0) cs.length) + _ = 1
    omega
/-- in the turned space below is above -/
theorem lt_turned {cs : List Nat} {q p : Nat} (hq : q < cs.length) (hp : p < cs.length) : ltP (turnedN cs) q p = ltP cs p q := by
  unfold ltP
  rw [turned_bit hp hq]
  by_cases e : q = p
  · subst e; rfl
  · have e2 : ¬ p = q := fun h => e h.symm
    simp [e, e2]
theorem dn_turned {cs : List Nat} : ∀ k p, p < cs.length → dnF (turnedN cs) k p = upF cs k p
  | 0, _, _ => rfl
  | k + 1, p, hp => by
    show 1 - sumTo (fun q => if ltP (turnedN cs) q p = true then dnF (turnedN cs) k q else 0) (turnedN cs).length = 1 - sumTo (fun q => if ltP cs p q = true then upF cs k q else 0) cs.length
    rw [turned_len]
    congr 1
    refine sumTo_same _ fun q hq => ?_
    rw [lt_turned hq hp, dn_turned k q hq]
end Go.Proofs.YtfhcbaamibipcaaDoor
