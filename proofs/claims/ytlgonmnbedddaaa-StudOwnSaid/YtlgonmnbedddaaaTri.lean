/- Triangle: the differences of the rows for each distance. -/
import Derived.Test.YtlgonmnbedddaaaMat
import Derived.Test.YtlgonmnbedddaaaOrd
set_option linter.unusedVariables false
set_option linter.unusedSimpArgs false
namespace Go.Proofs.Ytlgonmnbedddaaa
open Go.RowKit

def triRow (xs : List Int) (d k : Nat) : List Int := (List.range k).map fun i => gi xs (d + i) - gi xs i
theorem triRow_succ (xs : List Int) (d k : Nat) : triRow xs d (k + 1) = triRow xs d k ++ [gi xs (d + k) - gi xs k] := by simp [triRow, List.range_succ]
theorem triRow_len (xs : List Int) (d k : Nat) : (triRow xs d k).length = k := by simp [triRow]
def triL (xs : List Int) (m : Nat) : List (List Int) := (List.range m).map fun d => triRow xs (d + 1) (xs.length - (d + 1))
theorem triL_succ (xs : List Int) (m : Nat) : triL xs (m + 1) = triL xs m ++ [triRow xs (m + 1) (xs.length - (m + 1))] := by simp [triL, List.range_succ]
theorem triL_len (xs : List Int) (m : Nat) : (triL xs m).length = m := by simp [triL]

/-- a slice of rows and a number behind it -/
def RetRows (w : World) (xss : List (List Int)) (err : Int) (e : Ending) (w' : World) : Prop := ∃ v, e = .returned (.tuple #[v, .int .i64 err]) ∧ MCol w w' v xss

def triS (xs : List Int) : List (List Int) × Int := if ordB xs then (triL xs (xs.length - 1), 0) else ([], 2)

set_option maxRecDepth 100000 in
set_option maxHeartbeats 1600000 in
theorem Triangle_ok (v : Value) (xs : List Int) (w : World) (ho : ordB xs = true) (hr : Reads w v xs) :
    Calls Try.prog 6 #[v] w (RetRows w (triL xs (xs.length - 1)) 0) := by
  have hr0 := hr
  obtain ⟨a, cap, rfl, h1, h2, hcell⟩ := hr.open
  obtain ⟨hl1, hl2⟩ := ordB_len ho
  have HR := Lib.hid (ordB_rng ho)
  have HO := Lib.hid ho
  obtain ⟨b, off, rfl, hb, hc0⟩ := hcell 0 (by omega)
  have HC : Hid (∀ q, q < xs.length → w.cell? ⟨b, off + q, none⟩ = some (.int .i64 (gi xs q))) := Lib.hid (fun q hq => by
    obtain ⟨_, _, he, _, h⟩ := hcell q hq
    cases he; exact h)
  clear ho h2 h1 hr hcell hc0
  go_enter Try.func6, Try.ntmps6
  go_wp2_with (go_at_call 16; refine (isOrder_any _ _ _ hr0).mono ?_; rintro e w' ⟨rfl, rfl⟩; rw [HO.out])
  go_loopw [4, 5, 6, 7] (fun v d _ _ wr => ∃ m : Nat, m + 1 ≤ xs.length ∧ d = .int .i64 ((m + 1 : Nat) : Int) ∧ MCol w wr v (triL xs m)) (fun _ d _ _ _ => xs.length - (intOf d).toNat)
  case atStart => exact ⟨0, by omega, by go_num, MCol.nil _⟩
  case round =>
    obtain ⟨m, hm, rfl, hcol⟩ := hrel
    obtain ⟨d, hd⟩ : ∃ d, m + 1 = d := ⟨_, rfl⟩
    rw [hd] at hm ⊢
    have HD := Lib.hid hd
    have hd1 : 1 ≤ d := by omega
    clear hd
    by_cases hlt : d < xs.length
    · go_wp2_with fail
      obtain ⟨wo, rfl⟩ : ∃ wo : World, wo = wr := ⟨_, rfl⟩
      go_loopw [6, 7] (fun v i wr => ∃ k : Nat, d + k ≤ xs.length ∧ i = .int .i64 ((d + k : Nat) : Int) ∧ Col wo wr v (triRow xs d k)) (fun _ i _ => xs.length - (intOf i).toNat)
      case atStart => exact ⟨0, by omega, by go_num, Col.nil _⟩
      case round =>
        obtain ⟨k, hk, rfl, hrow⟩ := hrel
        obtain ⟨j, hj⟩ : ∃ j, d + k = j := ⟨_, rfl⟩
        rw [hj] at hk ⊢
        have HJ := Lib.hid hj
        have hkj : k < j := by omega
        have hjd : (j : Int) - (d : Int) = k := by omega
        clear hj
        by_cases hjl : j < xs.length
        · have hbel := hcol.below.trans (hrow.below.mono hcol.below.size)
          have hcj : wr.cell? ⟨b, off + j, none⟩ = some (.int .i64 (gi xs j)) := (hbel.cell (p := ⟨b, off + j, none⟩) hb).trans (HC.out j hjl)
          have hck : wr.cell? ⟨b, off + k, none⟩ = some (.int .i64 (gi xs k)) := (hbel.cell (p := ⟨b, off + k, none⟩) hb).trans (HC.out k (by omega))
          obtain ⟨r1, r1'⟩ := HR.out j
          obtain ⟨r2, r2'⟩ := HR.out k
          have e1 : IntKind.i64.wrap (k : Int) = (k : Int) := IntWalk.i64_in _ (by omega)
          have e2 : IntKind.i64.wrap (gi xs j - gi xs k) = gi xs j - gi xs k := IntWalk.i64_in _ (by omega)
          have j0 : (0 : Int) ≤ (j : Int) := by omega
          have j1 : (j : Int) < (xs.length : Int) := by omega
          have k0 : (0 : Int) ≤ (k : Int) := by omega
          have k1 : (k : Int) < (xs.length : Int) := by omega
          have HBO : Hid (b < wo.heap.size) := Lib.hid (Nat.lt_of_lt_of_le hb hcol.below.size)
          have HCJO : Hid (wo.cell? ⟨b, off + j, none⟩ = some (.int .i64 (gi xs j))) := Lib.hid ((hcol.below.cell (p := ⟨b, off + j, none⟩) hb).trans (HC.out j hjl))
          have HCKO : Hid (wo.cell? ⟨b, off + k, none⟩ = some (.int .i64 (gi xs k))) := Lib.hid ((hcol.below.cell (p := ⟨b, off + k, none⟩) hb).trans (HC.out k (by omega)))
          have HRow := Lib.hid hrow
          have HL : Hid ((triRow xs d k).length ≤ 1000000000) := Lib.hid (by rw [triRow_len]; omega)
          clear hrow hbel
          go_wp2_with fail
          go_region_held3 (fun w' => w'.cell? ⟨b, off + j, none⟩ = some (.int .i64 (gi xs j)) ∧ w'.cell? ⟨b, off + k, none⟩ = some (.int .i64 (gi xs k)))
            (first | go_keep | exact ⟨(hcol'.below.cell (p := ⟨b, off + j, none⟩) HBO.out).trans HCJO.out, (hcol'.below.cell (p := ⟨b, off + k, none⟩) HBO.out).trans HCKO.out⟩)
            (first
              | (refine step_append_int rfl _ _ rfl HRow.out rfl _ rfl HL.out ?_; intro v' w' hcol' hne))
          go_wp2
          go_roundw
          case rel => exact ⟨k + 1, by have := HJ.out; omega, by rw [show d + (k + 1) = j + 1 by have := HJ.out; omega]; go_num, by rw [triRow_succ, HJ.out]; exact hcol'⟩
          case measure => simp [intOf]; omega
        · have hjn : k = xs.length - d := by omega
          have HK := Lib.hid hjn
          have HM : Hid ((triL xs m).length ≤ 1000000000) := Lib.hid (by have := HD.out; rw [triL_len]; omega)
          have HMC := Lib.hid (hcol.step hrow.below)
          obtain ⟨ar, lr, cr, rfl⟩ := hrow.slice
          have HOR := Lib.hid (hrow.row.mono hcol.below.size)
          clear hjn hrow hcol
          go_wp2_with (at_builtin; refine append_row rfl _ _ rfl HMC.out HOR.out rfl rfl HM.out ?_; intro v' w' hcol' hne)
          go_roundw
          case rel => exact ⟨m + 1, by have := HD.out; omega, by have := HD.out; rw [HD.out]; go_num, by rw [triL_succ, HD.out, ← HK.out]; exact hcol'⟩
          case measure => simp [intOf]; omega
    · have hmn : m = xs.length - 1 := by have := HD.out; omega
      have HMN := Lib.hid hmn
      clear hmn
      go_wp2_with fail
      go_ret2
      exact ⟨_, rfl, by rw [← HMN.out]; exact hcol⟩
theorem Triangle_err (v : Value) (xs : List Int) (w : World) (ho : ordB xs = false) (hr : Reads w v xs) :
    Calls Try.prog 6 #[v] w (RetRows w [] 2) := by
  have HO := Lib.hid ho
  clear ho
  go_enter Try.func6, Try.ntmps6
  go_wp2_with (go_at_call 16; refine (isOrder_any _ _ _ hr).mono ?_; rintro e w' ⟨rfl, rfl⟩; rw [HO.out])
  go_ret2
  exact ⟨_, rfl, MCol.nil _⟩
theorem Triangle_any (v : Value) (xs : List Int) (w : World) (hr : Reads w v xs) :
    Calls Try.prog 6 #[v] w (RetRows w (triS xs).1 (triS xs).2) := by
  unfold triS
  rcases h : ordB xs with _ | _
  · exact Triangle_err v xs w h hr
  · exact Triangle_ok v xs w h hr
end Go.Proofs.Ytlgonmnbedddaaa
