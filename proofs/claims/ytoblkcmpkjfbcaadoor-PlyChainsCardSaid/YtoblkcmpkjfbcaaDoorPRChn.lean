/- ply's reference: chains, Chains. -/
import Derived.Test.YtoblkcmpkjfbcaaDoorPRSp
import Derived.Test.YtoblkcmpkjfbcaaDoorPCount
set_option linter.unusedVariables false
set_option linter.unusedSimpArgs false
namespace Go.Proofs.YtoblkcmpkjfbcaaDoor
open Go.RowKit Go.Shelf

def sg (odd : Bool) (x : Int) : Int := if odd then x else -x
def upV (cs : List Nat) (p : Nat) : Int := upF cs 65 p
def upTerm (cs : List Nat) (p q : Nat) : Int := if ltP cs p q = true then upV cs q else 0
theorem sumTo_next (h : Nat → Int) (n : Nat) : sumTo h (n + 1) = sumTo h n + h n := rfl
theorem upV_step {cs : List Nat} (hs : spaceB cs = true) (hp : plainB cs = true) (hc : Codes cs) {p : Nat} (hpn : p < cs.length) : upV cs p = 1 - sumTo (upTerm cs p) cs.length := by
  have h1 := up_stable hs hp (B := 64) (cell_64 hc) 65 p hpn (by have := cell_64 hc p; omega)
  unfold upV
  rw [← h1]
  rfl

set_option maxRecDepth 100000 in
set_option maxHeartbeats 3200000 in
theorem refchains_any (v : Value) (cs : List Nat) (hs : spaceB cs = true) (hp : plainB cs = true) (hc : Codes cs) : ∀ (k p : Nat) (odd : Bool) (w : World), 64 - cell cs p < k → p < cs.length → Reads w v (ofNats cs) →
    Calls Tryd.prog 21 #[v, .int .i64 p, .bool odd] w fun e w' => e = .returned (.int .i64 (wrap64 (sg odd (upV cs p)))) ∧ Below w.heap.size w w' := by
  intro k
  induction k with
  | zero => intro p odd w h; omega
  | succ k ih =>
    intro p odd w hk hpn hr
    have hr0 := hr
    obtain ⟨a, cap, rfl, h1, h2, hcell⟩ := hr.open
    have hl6 := hc.2.1
    have hlen := ofNats_len cs
    rw [hlen] at h1 hcell hr0 ⊢
    have HC64 := Lib.hid (cell_64 hc)
    have HSTEP := Lib.hid (upV_step hs hp hc hpn)
    have HLESS : Hid (∀ q, q < 64 → q < cs.length → ltP cs p q = true → cell cs p < cell cs q) := Lib.hid (fun q _ hq h => lt_less hs hp hpn hq h)
    have hpc := cell_64 hc p
    rw [hlen] at ih
    obtain ⟨n, hn⟩ : ∃ n, cs.length = n := ⟨_, rfl⟩
    rw [hn] at h1 hcell hl6 hr0 hpn HSTEP HLESS ih ⊢
    have HR := Lib.hid hr0
    have IH := Lib.hid (fun q odd w h1 h2 h3 => ih q odd w h1 h2 h3)
    have hp6 : p < 6 := by omega
    clear h2 hr hr0 hc hlen hn hs hp ih
    cases odd
    · go_enter Tryd.func21, Tryd.ntmps21
      go_wp2_with fail
      go_loopw [7, 8] (fun s i wr => ∃ q : Nat, q ≤ n ∧ i = .int .i64 q ∧ s = .int .i64 (wrap64 (sg false (1 - sumTo (upTerm cs p) q))) ∧ Below w.heap.size w wr) (fun _ i _ => n - (intOf i).toNat)
      case atStart => exact ⟨0, by omega, rfl, by rw [show wrap64 (sg false (1 - sumTo (upTerm cs p) 0)) = -1 by simp [sg, sumTo, wrap64]], Below.refl _ _⟩
      case round =>
        obtain ⟨q, hq, rfl, rfl, hbr⟩ := hrel
        by_cases hlt : q < n
        · have hck := hcell q hlt
          obtain ⟨b, off, rfl, hb, hcq⟩ := hck
          rw [gi_nats] at hcq
          have hcr := (hbr.cell (p := ⟨b, off + q, none⟩) hb).trans hcq
          have q0 : (0 : Int) ≤ (q : Int) := by omega
          have q1 : (q : Int) < (n : Int) := by omega
          have HBR := Lib.hid hbr
          have HR2 := Lib.hid (HR.out.below hbr)
          have hc64 := HC64.out q
          clear hcell hcq hbr
          by_cases hqp : q = p
          · subst hqp
            have HT : Hid (upTerm cs q q = 0) := Lib.hid (by unfold upTerm ltP; simp)
            go_wp2_with fail
            go_roundw
            case rel => exact ⟨q + 1, by omega, by go_num, by rw [sumTo_next, HT.out, Int.add_zero], HBR.out⟩
            case measure => simp [intOf]; omega
          · have hne : ((q : Int) == (p : Int)) = false := by simp; omega
            have hne2 : ¬ (q : Int) = (p : Int) := by omega
            rcases hbit : (cell cs q).testBit p with _ | _
            · have HT : Hid (upTerm cs p q = 0) := Lib.hid (by unfold upTerm ltP; simp [hbit])
              have HBIT := Lib.hid hbit
              clear hbit
              go_wp2_with fail
              refine (refHas_any (cell cs q) p _ hc64 (by omega)).mono ?_
              rintro e w' ⟨rfl, rfl⟩
              rw [HBIT.out]
              go_wp2_with fail
              go_roundw
              case rel => exact ⟨q + 1, by omega, by go_num, by rw [sumTo_next, HT.out, Int.add_zero], HBR.out⟩
              case measure => simp [intOf]; omega
            · have HT : Hid (upTerm cs p q = upV cs q) := Lib.hid (by unfold upTerm ltP; rw [hbit]; simp; omega)
              have hmore : cell cs p < cell cs q := HLESS.out q (by omega) hlt (by unfold ltP; rw [hbit]; simp; omega)
              have HBIT := Lib.hid hbit
              clear hbit
              go_wp2_with fail
              refine (refHas_any (cell cs q) p _ hc64 (by omega)).mono ?_
              rintro e w' ⟨rfl, rfl⟩
              rw [HBIT.out]
              go_wp2_with fail
              refine (IH.out q true wr (by omega) hlt HR2.out).mono ?_
              rintro e w2 ⟨rfl, hb2⟩
              have hsum : wrap64 (wrap64 (sg false (1 - sumTo (upTerm cs p) q)) + wrap64 (sg true (upV cs q))) = wrap64 (sg false (1 - sumTo (upTerm cs p) (q + 1))) := by
                rw [wrap_add, sumTo_next, HT.out]; unfold sg; congr 1; simp; omega
              have HSUM := Lib.hid hsum
              clear hsum
              go_wp2_with fail
              go_roundw
              case rel => exact ⟨q + 1, by omega, by go_num, by rw [HSUM.out], below_to HBR.out HBR.out.size hb2⟩
              case measure => simp [intOf]; omega
        · have hqn : q = n := by omega
          have HQ := Lib.hid hqn
          clear hqn hcell
          go_wp2_with fail
          go_ret
          exact ⟨ret_int (by rw [HSTEP.out, HQ.out]), hbr⟩
    · go_enter Tryd.func21, Tryd.ntmps21
      go_wp2_with fail
      go_loopw [7, 8] (fun s i wr => ∃ q : Nat, q ≤ n ∧ i = .int .i64 q ∧ s = .int .i64 (wrap64 (sg true (1 - sumTo (upTerm cs p) q))) ∧ Below w.heap.size w wr) (fun _ i _ => n - (intOf i).toNat)
      case atStart => exact ⟨0, by omega, rfl, by rw [show wrap64 (sg true (1 - sumTo (upTerm cs p) 0)) = 1 by simp [sg, sumTo, wrap64]], Below.refl _ _⟩
      case round =>
        obtain ⟨q, hq, rfl, rfl, hbr⟩ := hrel
        by_cases hlt : q < n
        · have hck := hcell q hlt
          obtain ⟨b, off, rfl, hb, hcq⟩ := hck
          rw [gi_nats] at hcq
          have hcr := (hbr.cell (p := ⟨b, off + q, none⟩) hb).trans hcq
          have q0 : (0 : Int) ≤ (q : Int) := by omega
          have q1 : (q : Int) < (n : Int) := by omega
          have HBR := Lib.hid hbr
          have HR2 := Lib.hid (HR.out.below hbr)
          have hc64 := HC64.out q
          clear hcell hcq hbr
          by_cases hqp : q = p
          · subst hqp
            have HT : Hid (upTerm cs q q = 0) := Lib.hid (by unfold upTerm ltP; simp)
            go_wp2_with fail
            go_roundw
            case rel => exact ⟨q + 1, by omega, by go_num, by rw [sumTo_next, HT.out, Int.add_zero], HBR.out⟩
            case measure => simp [intOf]; omega
          · have hne : ((q : Int) == (p : Int)) = false := by simp; omega
            have hne2 : ¬ (q : Int) = (p : Int) := by omega
            rcases hbit : (cell cs q).testBit p with _ | _
            · have HT : Hid (upTerm cs p q = 0) := Lib.hid (by unfold upTerm ltP; simp [hbit])
              have HBIT := Lib.hid hbit
              clear hbit
              go_wp2_with fail
              refine (refHas_any (cell cs q) p _ hc64 (by omega)).mono ?_
              rintro e w' ⟨rfl, rfl⟩
              rw [HBIT.out]
              go_wp2_with fail
              go_roundw
              case rel => exact ⟨q + 1, by omega, by go_num, by rw [sumTo_next, HT.out, Int.add_zero], HBR.out⟩
              case measure => simp [intOf]; omega
            · have HT : Hid (upTerm cs p q = upV cs q) := Lib.hid (by unfold upTerm ltP; rw [hbit]; simp; omega)
              have hmore : cell cs p < cell cs q := HLESS.out q (by omega) hlt (by unfold ltP; rw [hbit]; simp; omega)
              have HBIT := Lib.hid hbit
              clear hbit
              go_wp2_with fail
              refine (refHas_any (cell cs q) p _ hc64 (by omega)).mono ?_
              rintro e w' ⟨rfl, rfl⟩
              rw [HBIT.out]
              go_wp2_with fail
              refine (IH.out q false wr (by omega) hlt HR2.out).mono ?_
              rintro e w2 ⟨rfl, hb2⟩
              have hsum : wrap64 (wrap64 (sg true (1 - sumTo (upTerm cs p) q)) + wrap64 (sg false (upV cs q))) = wrap64 (sg true (1 - sumTo (upTerm cs p) (q + 1))) := by
                rw [wrap_add, sumTo_next, HT.out]; unfold sg; congr 1; simp; omega
              have HSUM := Lib.hid hsum
              clear hsum
              go_wp2_with fail
              go_roundw
              case rel => exact ⟨q + 1, by omega, by go_num, by rw [HSUM.out], below_to HBR.out HBR.out.size hb2⟩
              case measure => simp [intOf]; omega
        · have hqn : q = n := by omega
          have HQ := Lib.hid hqn
          clear hqn hcell
          go_wp2_with fail
          go_ret
          exact ⟨ret_int (by rw [HSTEP.out, HQ.out]), hbr⟩

set_option maxRecDepth 100000 in
set_option maxHeartbeats 1600000 in
theorem refChains_any (v : Value) (cs : List Nat) (w : World) (hs : spaceB cs = true) (hp : plainB cs = true) (hc : Codes cs) (hr : Reads w v (ofNats cs)) :
    Calls Tryd.prog 9 #[v] w fun e w' => e = .returned (.int .i64 (wrap64 (sumTo (upV cs) cs.length))) ∧ Below w.heap.size w w' := by
  have hr0 := hr
  obtain ⟨a, cap, rfl, h1, h2, _⟩ := hr.open
  have hl6 := hc.2.1
  have hlen := ofNats_len cs
  rw [hlen] at h1 hr0 ⊢
  have hcall : ∀ (p : Nat) (w1 : World), p < cs.length → Below w.heap.size w w1 → Calls Tryd.prog 21 #[.slice a cs.length cap, .int .i64 p, .bool true] w1 fun e w' => e = .returned (.int .i64 (wrap64 (upV cs p))) ∧ Below w1.heap.size w1 w' := fun p w1 hpn hb =>
    refchains_any _ cs hs hp hc _ p true w1 (Nat.lt_succ_self _) hpn (hr0.below hb)
  have HCALL := Lib.hid hcall
  clear hcall
  generalize cs.length = n at *
  clear h2 hr hr0 hc hlen hs hp
  go_enter Tryd.func9, Tryd.ntmps9
  go_wp2_with fail
  go_loopw [3, 4] (fun s i wr => ∃ q : Nat, q ≤ n ∧ i = .int .i64 q ∧ s = .int .i64 (wrap64 (sumTo (upV cs) q)) ∧ Below w.heap.size w wr) (fun _ i _ => n - (intOf i).toNat)
  case atStart => exact ⟨0, by omega, rfl, by rw [show wrap64 (sumTo (upV cs) 0) = 0 by simp [sumTo, wrap64]], Below.refl _ _⟩
  case round =>
    obtain ⟨q, hq, rfl, rfl, hbr⟩ := hrel
    by_cases hlt : q < n
    · have hsum : wrap64 (wrap64 (sumTo (upV cs) q) + wrap64 (upV cs q)) = wrap64 (sumTo (upV cs) (q + 1)) := by rw [wrap_add, sumTo_next]
      have HSUM := Lib.hid hsum
      clear hsum
      go_wp2_with fail
      refine (HCALL.out q wr hlt hbr).mono ?_
      rintro e w2 ⟨rfl, hb2⟩
      have hb3 := below_to hbr hbr.size hb2
      go_wp2_with fail
      go_roundw
      case rel => exact ⟨q + 1, by omega, by go_num, by rw [HSUM.out], hb3⟩
      case measure => simp [intOf]; omega
    · have hqn : q = n := by omega
      have HQ := Lib.hid hqn
      clear hqn
      go_wp2_with fail
      go_ret
      exact ⟨ret_int (by rw [HQ.out]), hbr⟩
end Go.Proofs.YtoblkcmpkjfbcaaDoor
