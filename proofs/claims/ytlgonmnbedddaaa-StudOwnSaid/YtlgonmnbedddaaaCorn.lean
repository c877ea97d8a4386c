/- Corners. -/
import Derived.Test.YtlgonmnbedddaaaIns
import Derived.Test.YtlgonmnbedddaaaClr
import Derived.Test.YtlgonmnbedddaaaWb
import Derived.Test.YtlgonmnbedddaaaMat
import Derived.Test.YtlgonmnbedddaaaOrd
set_option linter.unusedVariables false
set_option linter.unusedSimpArgs false
namespace Go.Proofs.Ytlgonmnbedddaaa
open Go.RowKit Go.Shelf

/-- the rows, one higher if p is 0, as far as k -/
def mRow (xs : List Int) (p k : Nat) : List Int := (List.range k).map fun i => gi xs i + 1 - (p : Int)
theorem mRow_succ (xs : List Int) (p k : Nat) : mRow xs p (k + 1) = mRow xs p k ++ [gi xs k + 1 - (p : Int)] := by simp [mRow, List.range_succ]
theorem mRow_len (xs : List Int) (p k : Nat) : (mRow xs p k).length = k := by simp [mRow]
/-- the order with a stud at a corner -/
def cornerL (xs : List Int) (c : Nat) : List Int := if c / 2 = 0 then (((c % 2) * xs.length : Nat) : Int) :: mRow xs (c % 2) xs.length else mRow xs (c % 2) xs.length ++ [(((c % 2) * xs.length : Nat) : Int)]
def cornTo (xs : List Int) (k : Nat) : List Int := ((List.range k).filter fun c => clearB (cornerL xs c)).map fun (c : Nat) => (c : Int)
def cornS (xs : List Int) : List Int × Int := if (ordB xs && !(decide (xs.length = 16))) = true then (cornTo xs 4, 0) else ([], 2)
theorem cornTo_succ (xs : List Int) (k : Nat) : cornTo xs (k + 1) = cornTo xs k ++ if clearB (cornerL xs k) = true then [(k : Int)] else [] := by
  unfold cornTo
  rw [List.range_succ, List.filter_append, List.map_append]
  congr 1
  by_cases h : clearB (cornerL xs k) = true <;> simp [h]
theorem cornTo_len (xs : List Int) (k : Nat) : (cornTo xs k).length ≤ k := by
  unfold cornTo; rw [List.length_map]
  have := List.length_filter_le (fun c => clearB (cornerL xs c)) (List.range k)
  simpa using this
theorem cornerL_len (xs : List Int) (c : Nat) : (cornerL xs c).length = xs.length + 1 := by unfold cornerL; split <;> simp [mRow_len]
theorem gi_small {xs : List Int} {b : Int} (hb : 0 ≤ b) (h : ∀ x ∈ xs, -b ≤ x ∧ x ≤ b) : ∀ j, -b ≤ gi xs j ∧ gi xs j ≤ b := fun j => by
  by_cases hj : j < xs.length
  · exact h _ (gi_mem hj)
  · have : gi xs j = 0 := by simp [gi, List.getElem?_eq_none (Nat.le_of_not_lt hj)]
    omega
theorem cornerL_small {xs : List Int} (ho : ordB xs = true) (c : Nat) : ∀ j, -1000000 ≤ gi (cornerL xs c) j ∧ gi (cornerL xs c) j ≤ 1000000 := by
  obtain ⟨hl1, hl2⟩ := ordB_len ho
  have hr := ordB_rng ho
  have hm : ∀ x ∈ mRow xs (c % 2) xs.length, -1000000 ≤ x ∧ x ≤ 1000000 := fun x hx => by
    unfold mRow at hx
    obtain ⟨i, _, rfl⟩ := List.mem_map.1 hx
    have := hr i
    have : c % 2 < 2 := Nat.mod_lt _ (by omega)
    omega
  have hs : -1000000 ≤ ((((c % 2) * xs.length : Nat)) : Int) ∧ ((((c % 2) * xs.length : Nat)) : Int) ≤ 1000000 := by
    have h2 : c % 2 = 0 ∨ c % 2 = 1 := by omega
    rcases h2 with h | h <;> rw [h] <;> omega
  refine gi_small (by omega) fun x hx => ?_
  unfold cornerL at hx
  split at hx
  · rcases List.mem_cons.1 hx with rfl | hx
    · exact hs
    · exact hm x hx
  · rcases List.mem_append.1 hx with hx | hx
    · exact hm x hx
    · simp only [List.mem_singleton] at hx; subst hx; exact hs

set_option maxRecDepth 100000 in
set_option maxHeartbeats 3200000 in
theorem Corners_ok (sl : Value) (xs : List Int) (w : World) (hr : Reads w sl xs) (ho : ordB xs = true) (h16 : xs.length ≠ 16) :
    Calls Try.prog 9 #[sl] w (RetInts w (cornTo xs 4) 0) := by
  obtain ⟨hl1, hl2⟩ := ordB_len ho
  have HO := Lib.hid ho
  have HR := Lib.hid (ordB_rng ho)
  have hr0 := hr
  obtain ⟨a, cap, rfl, _, _, hcell⟩ := hr.open
  have t16 : ((xs.length : Int) == 16) = false := by simp; omega
  have HC := Lib.hid hcell
  clear ho hr hcell
  go_enter Try.func9, Try.ntmps9
  go_wp2_with (go_at_call 16; refine (isOrder_any _ _ _ hr0).mono ?_; rintro e w' ⟨rfl, rfl⟩; rw [HO.out])
  go_loopw [4, 19, 7, 29] (fun v i _ _ wr => ∃ c : Nat, c ≤ 4 ∧ i = .int .i64 c ∧ Col w wr v (cornTo xs c)) (fun _ i _ _ _ => 4 - (intOf i).toNat)
  case atStart => exact ⟨0, by omega, rfl, Col.nil _⟩
  case round =>
    obtain ⟨c, hc, rfl, hcol⟩ := hrel
    by_cases hlt : c < 4
    · have t4 : decide ((c : Int) < 4) = true := by simp; omega
      obtain ⟨p, hp⟩ : ∃ p, c % 2 = p := ⟨_, rfl⟩
      obtain ⟨h, hh⟩ : ∃ h, c / 2 = h := ⟨_, rfl⟩
      have hp1 : p ≤ 1 := by omega
      have hh1 : h ≤ 1 := by omega
      obtain ⟨rw', hrw⟩ : ∃ r, p * xs.length = r := ⟨_, rfl⟩
      obtain ⟨at', hat⟩ : ∃ r, h * xs.length = r := ⟨_, rfl⟩
      have hrw16 : rw' ≤ 16 := by
        have : p = 0 ∨ p = 1 := by omega
        rcases this with e | e <;> rw [e] at hrw <;> omega
      have hat16 : at' ≤ 16 := by
        have : h = 0 ∨ h = 1 := by omega
        rcases this with e | e <;> rw [e] at hat <;> omega
      have e1 : (c : Int) % 2 = (p : Int) := by omega
      have e2 : (p : Int) * (xs.length : Int) = (rw' : Int) := by rw [← hrw]; simp
      have e3 : (c : Int) / 2 = (h : Int) := by omega
      have e4 : (h : Int) * (xs.length : Int) = (at' : Int) := by rw [← hat]; simp
      have hcl : cornerL xs c = if h = 0 then (rw' : Int) :: mRow xs p xs.length else mRow xs p xs.length ++ [(rw' : Int)] := by unfold cornerL; rw [hp, hh, hrw]
      have HCL := Lib.hid hcl
      have HAT : Hid (at' = if h = 0 then 0 else xs.length) := Lib.hid (by
        have : h = 0 ∨ h = 1 := by omega
        rcases this with e | e <;> rw [e] at hat <;> simp [e] <;> omega)
      have HSM := Lib.hid (cornerL_small HO.out c)
      have HLN := Lib.hid (cornerL_len xs c)
      have HSU := Lib.hid (cornTo_succ xs c)
      have HCT := Lib.hid (cornTo_len xs c)
      clear hcl hp hh hrw hat
      go_wp2_with fail
      try simp only [e1]
      obtain ⟨wo, rfl⟩ : ∃ wo : World, wo = wr := ⟨_, rfl⟩
      go_loopw [7, 29] (fun v i wr => ∃ k : Nat, k ≤ xs.length ∧ i = .int .i64 k ∧ Col wo wr v (mRow xs p k)) (fun _ i _ => xs.length - (intOf i).toNat)
      case atStart => exact ⟨0, by omega, rfl, Col.nil _⟩
      case round =>
        obtain ⟨k, hk, rfl, hrow⟩ := hrel
        by_cases hkn : k < xs.length
        · obtain ⟨b, off, rfl, hb, hck⟩ := HC.out k hkn
          have hbel := hcol.below.trans (hrow.below.mono hcol.below.size)
          have hc' : wr.cell? ⟨b, off + k, none⟩ = some (.int .i64 (gi xs k)) := (hbel.cell (p := ⟨b, off + k, none⟩) hb).trans hck
          obtain ⟨r1, r2⟩ := HR.out k
          have k0 : (0 : Int) ≤ (k : Int) := by omega
          have k1 : (k : Int) < (xs.length : Int) := by omega
          have HRow := Lib.hid hrow
          have HL : Hid ((mRow xs p k).length ≤ 1000000000) := Lib.hid (by rw [mRow_len]; omega)
          clear hrow hbel hck
          go_wp2_with (at_builtin; refine append_int rfl _ _ rfl HRow.out rfl _ rfl HL.out ?_; intro v' w' hcol' hne)
          go_roundw
          case rel => exact ⟨k + 1, by omega, by go_num, by rw [mRow_succ]; exact hcol'⟩
          case measure => simp [intOf]; omega
        · obtain rfl : k = xs.length := by omega
          have hml : (mRow xs p xs.length).length = xs.length := mRow_len _ _ _
          have HML := Lib.hid hml
          have HROW := Lib.hid hrow
          obtain ⟨ra, rl, rc, rfl⟩ := hrow.slice
          clear hml hrow
          by_cases h0 : h = 0
          · subst h0
            have hat0 : at' = 0 := by have := HAT.out; simpa using this
            subst hat0
            have hcl2 := HCL.out
            rw [if_pos rfl] at hcl2
            have HCL := Lib.hid hcl2
            clear hcl2 hat16
            go_wp2_with fail
            refine (insert_front HROW.out (by rw [HML.out]; omega) (by rw [HML.out]; omega) _).mono ?_
            rintro e w1 ⟨v1, rfl, hr1, hb1⟩
            have HB : Hid (Below wo.heap.size wo w1) := Lib.hid hb1
            clear hb1
            go_wp2_with fail
            refine (isClear_any _ (cornerL xs c) _ HSM.out (by rw [HLN.out]; omega) (by rw [HCL.out]; exact hr1)).mono ?_
            rintro e w2 ⟨rfl, hb2⟩
            have hcol2 := (hcol.step HB.out).step hb2
            clear hr1 hb2 HB HROW hcol
            rcases hcb : clearB (cornerL xs c) with _ | _
            · have HCB := Lib.hid hcb
              clear hcb
              go_wp2_with fail
              go_roundw
              case rel => exact ⟨c + 1, by omega, by go_num, by rw [HSU.out, HCB.out, if_neg (by simp), List.append_nil]; exact hcol2⟩
              case measure => simp [intOf]; omega
            · have HCB := Lib.hid hcb
              have HC2 := Lib.hid hcol2
              have HL2 : Hid ((cornTo xs c).length ≤ 1000000000) := Lib.hid (by have := HCT.out; omega)
              clear hcb hcol2
              go_wp2_with (at_builtin; refine append_int rfl _ _ rfl HC2.out rfl _ rfl HL2.out ?_; intro v' w' hcol' hne)
              go_roundw
              case rel => exact ⟨c + 1, by omega, by go_num, by rw [HSU.out, HCB.out, if_pos rfl]; exact hcol'⟩
              case measure => simp [intOf]; omega
          · obtain rfl : h = 1 := by omega
            have hat1 : at' = xs.length := by have := HAT.out; simpa using this
            subst hat1
            have hcl2 := HCL.out
            rw [if_neg (by omega)] at hcl2
            have HCL := Lib.hid hcl2
            have hib := insert_back HROW.out (by rw [HML.out]; omega) (by rw [HML.out]; omega) (rw' : Int)
            rw [HML.out] at hib
            have HIB := Lib.hid hib
            clear hcl2 h0 hib
            go_wp2_with fail
            refine HIB.out.mono ?_
            rintro e w1 ⟨v1, rfl, hr1, hb1⟩
            have HB : Hid (Below wo.heap.size wo w1) := Lib.hid hb1
            clear hb1
            go_wp2_with fail
            refine (isClear_any _ (cornerL xs c) _ HSM.out (by rw [HLN.out]; omega) (by rw [HCL.out]; exact hr1)).mono ?_
            rintro e w2 ⟨rfl, hb2⟩
            have hcol2 := (hcol.step HB.out).step hb2
            clear hr1 hb2 HB HROW hcol
            rcases hcb : clearB (cornerL xs c) with _ | _
            · have HCB := Lib.hid hcb
              clear hcb
              go_wp2_with fail
              go_roundw
              case rel => exact ⟨c + 1, by omega, by go_num, by rw [HSU.out, HCB.out, if_neg (by simp), List.append_nil]; exact hcol2⟩
              case measure => simp [intOf]; omega
            · have HCB := Lib.hid hcb
              have HC2 := Lib.hid hcol2
              have HL2 : Hid ((cornTo xs c).length ≤ 1000000000) := Lib.hid (by have := HCT.out; omega)
              clear hcb hcol2
              go_wp2_with (at_builtin; refine append_int rfl _ _ rfl HC2.out rfl _ rfl HL2.out ?_; intro v' w' hcol' hne)
              go_roundw
              case rel => exact ⟨c + 1, by omega, by go_num, by rw [HSU.out, HCB.out, if_pos rfl]; exact hcol'⟩
              case measure => simp [intOf]; omega
    · obtain rfl : c = 4 := by omega
      go_wp2_with fail
      go_ret2
      exact ⟨_, rfl, hcol⟩
theorem Corners_err (sl : Value) (xs : List Int) (w : World) (hr : Reads w sl xs) (h : (ordB xs && !(decide (xs.length = 16))) = false) :
    Calls Try.prog 9 #[sl] w (RetInts w [] 2) := by
  have hr0 := hr
  obtain ⟨a, cap, rfl, _, _, _⟩ := hr.open
  clear hr
  rcases ho : ordB xs with _ | _
  · have HO := Lib.hid ho
    clear ho h
    go_enter Try.func9, Try.ntmps9
    go_wp2_with (go_at_call 16; refine (isOrder_any _ _ _ hr0).mono ?_; rintro e w' ⟨rfl, rfl⟩; rw [HO.out])
    go_ret2
    exact RetInts.err _ _
  · rw [ho, Bool.true_and] at h
    have t16 : ((xs.length : Int) == 16) = true := by simp at h ⊢; omega
    have HO := Lib.hid ho
    clear ho h
    go_enter Try.func9, Try.ntmps9
    go_wp2_with (go_at_call 16; refine (isOrder_any _ _ _ hr0).mono ?_; rintro e w' ⟨rfl, rfl⟩; rw [HO.out])
    go_ret2
    exact RetInts.err _ _
theorem Corners_any (sl : Value) (xs : List Int) (w : World) (hr : Reads w sl xs) : Calls Try.prog 9 #[sl] w (RetInts w (cornS xs).1 (cornS xs).2) := by
  unfold cornS
  rcases h : (ordB xs && !(decide (xs.length = 16))) with _ | _
  · exact Corners_err sl xs w hr h
  · rw [Bool.and_eq_true] at h
    exact Corners_ok sl xs w hr h.1 (by simpa using h.2)
end Go.Proofs.Ytlgonmnbedddaaa
