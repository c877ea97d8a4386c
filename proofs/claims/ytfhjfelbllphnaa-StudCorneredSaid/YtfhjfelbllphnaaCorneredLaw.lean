/- StudCornered. -/
import Derived.Test.YtfhjfelbllphnaaCornLaw
import Derived.Test.YtfhjfelbllphnaaTame
import Derived.Test.YtfhjfelbllphnaaLens
import Derived.Test.YtfhjfelbllphnaaAwake
set_option linter.unusedVariables false
set_option linter.unusedSimpArgs false
namespace Go.Proofs.Ytfhjfelbllphnaa
open Go.RowKit

theorem clearS_ex {xs : List Int} (ho : ordB xs = true) : ∃ (a b c d : Int), clearS xs = .tuple #[.agg #[.int .i64 a, .int .i64 b, .int .i64 c, .int .i64 d], .bool (clearB xs), .int .i64 0] := by
  unfold clearS
  rw [ho]
  rcases hf : firstClash xs with _ | ⟨p, q⟩
  · rw [firstClash_iff.1 hf]; exact ⟨0, 0, 0, 0, rfl⟩
  · have : clearB xs = false := by
      rcases h : clearB xs with _ | _
      · rfl
      · rw [← firstClash_iff, hf] at h; cases h
    rw [this]
    exact ⟨p.1, p.2, q.1, q.2, rfl⟩

set_option maxRecDepth 100000 in
set_option maxHeartbeats 3200000 in
theorem StudCornered_walk (x : Int) (sl : Value) (ls : List Int) (w : World) (wx : -9223372036854775808 ≤ x ∧ x ≤ 9223372036854775807) (hr : Reads w sl ls) (hx : ∀ x ∈ ls, -9223372036854775808 ≤ x ∧ x ≤ 9223372036854775807) :
    Calls Try.prog 3 #[.int .i64 x, sl] w fun e w' => e = .returned (.bool true) ∧ Below w.heap.size w w' := by
  clear hx wx
  go_enter Try.func3, Try.ntmps3
  go_wp2_with fail
  refine (tame_any x _ ls 15 _ hr (by omega) (by omega)).mono ?_
  rintro e w1 ⟨l, o, rfl, hne, hcol, ho, hl⟩
  obtain ⟨g, cap, rfl⟩ := hcol.some hne
  have hb1 := hcol.below
  have hr1 := hcol.reads
  have hl15 : o.length ≤ 15 := by omega
  have hcs : cornS o = (cornTo o 4, 0) := by unfold cornS; rw [ho, decide_eq_false (by omega)]; rfl
  obtain ⟨a, b, c, d, hcl⟩ := clearS_ex ho
  have HO := Lib.hid ho
  have HCS := Lib.hid hcs
  have HCL := Lib.hid hcl
  have hlen4 := cornTo_len o 4
  have hnone : clearB o = false → (cornTo o 4).length = 0 := fun h => by rw [corner_none h]; rfl
  have HNONE := Lib.hid hnone
  have HAT := Lib.hid (fun i (hi : i < (cornTo o 4).length) => corn_at hi)
  have HASC := Lib.hid (fun i j (hij : i < j) (hj : j < (cornTo o 4).length) => corn_asc hij hj)
  clear hcol hne hcs hcl hnone ho hr hl
  go_wp2_with fail
  refine (Corners_any _ _ _ hr1).mono ?_
  rintro e w2 ⟨v2, rfl, hcol2⟩
  rw [HCS.out] at hcol2 ⊢
  have hb2 := hb1.trans (hcol2.below.mono hb1.size)
  have hr2 := hr1.below hcol2.below
  have hrc2 := hcol2.reads
  clear hcol2 hb1 hr1 HCS
  generalize cornTo o 4 = cs at *
  obtain ⟨va, vc, hve⟩ := reads_len hrc2
  generalize hn : cs.length = n at *
  subst hve
  have HN := Lib.hid hn
  clear hn
  go_wp2_with fail
  refine (Clear_any _ _ _ hr2).mono ?_
  rintro e w3 ⟨rfl, hb3⟩
  rw [HCL.out]
  have hr3 := hr2.below hb3
  have hrc3 := hrc2.below hb3
  have hb4 := hb2.trans (hb3.mono hb2.size)
  clear hr2 hrc2 hb2 hb3
  have hal : Below w3.heap.size w3 (w3.alloc (.cells #[.int .i64 a, .int .i64 b, .int .i64 c, .int .i64 d] 27)) := (Below.refl _ _).alloc (Nat.le_refl _) _
  have HR4 := Lib.hid (hr3.below hal)
  have HRC4 := Lib.hid (hrc3.below hal)
  have HB4 := Lib.hid (hb4.trans (hal.mono hb4.size))
  clear hr3 hrc3 hb4 hal
  have tn : decide (4 < (n : Int)) = false := by simp; omega
  have t0 : decide (0 < (n : Int)) = false ∨ clearB o = true := by
    rcases h : clearB o with _ | _
    · left; have := HNONE.out h; simp; omega
    · right; rfl
  rcases hcb : clearB o with _ | _
  · have hn0 : n = 0 := HNONE.out hcb
    subst hn0
    clear t0 hcb
    go_wp2_with fail
    have hb4 := HB4.out
    generalize World.alloc w3 _ = W4 at hb4 ⊢
    go_loopw [11] (fun i wr => i = .int .i64 0 ∧ wr = W4) (fun i _ => 0)
    case atStart => exact ⟨rfl, rfl⟩
    case round =>
      obtain ⟨rfl, rfl⟩ := hrel
      go_wp2_with (go_at_call 8; refine (awake_any _).mono ?_; rintro e w6 ⟨rfl, hb6⟩)
      go_ret
      exact ⟨rfl, hb4.trans (hb6.mono hb4.size)⟩
  · clear t0 hcb
    go_wp2_with fail
    have hb4 := HB4.out
    have hr4 := HR4.out
    have hrc4 := HRC4.out
    generalize World.alloc w3 _ = W4 at hb4 hr4 hrc4 ⊢
    clear HB4 HR4 HRC4
    go_loopw [11] (fun i wr => ∃ k : Nat, k ≤ n ∧ i = .int .i64 k ∧ Below W4.heap.size W4 wr) (fun i _ => n - (intOf i).toNat)
    case atStart => exact ⟨0, by omega, rfl, Below.refl _ _⟩
    case round =>
      obtain ⟨k, hk, rfl, hbr⟩ := hrel
      by_cases hlt : k < n
      · have hrr := hr4.below hbr
        have hrcr := hrc4.below hbr
        obtain ⟨_, _, he, _, _, hcell⟩ := hrcr.open
        rw [HN.out] at he hcell
        cases he
        obtain ⟨cb, off, rfl, hcb, hck⟩ := hcell k hlt
        obtain ⟨q, hq, hq4, hqc⟩ := HAT.out k (by omega)
        rw [hq] at hck
        have hck' := hck
        have k0 : (0 : Int) ≤ (k : Int) := by omega
        have k1 : (k : Int) < (n : Int) := by omega
        have tq : decide (3 < (q : Int)) = false := by simp; omega
        have tqz : decide ((q : Int) < 0) = false := by simp
        have tq' : decide (3 < q) = false := by simp; omega
        have tq0 : ¬ (3 < q) := by omega
        have HQC := Lib.hid hqc
        have HB := Lib.hid hbr
        have HRR := Lib.hid hrr
        obtain ⟨ca, cb', cc, cd, hX⟩ := clearS_ex (corner_ord HO.out hl15 q)
        rw [hqc] at hX
        have HX := Lib.hid hX
        by_cases hk0 : k = 0
        · have tk : decide (0 < k) = false := by simp; omega
          have tk' : decide ((0 : Int) < (k : Int)) = false := by simp; omega
          clear hcell hq hqc hbr hrr hrcr hX hck' hk0
          go_wp2_with fail
          refine wp_region_quiet_lit (by kernel_rfl) (by kernel_rfl) ?_
          iterate 28 (first | go_big_quiet_step (fail) | quiet_step (fail))
          refine wpQuiet_nil ?_
          intro _ hw'
          obtain ⟨nq, hw''⟩ := hw'
          subst hw''
          have hbq := below_drewN wr nq
          generalize World.drewN wr nq = W5 at hbq ⊢
          have hck5 := (hbq.cell (p := ⟨cb, off + k, none⟩) (Nat.lt_of_lt_of_le hcb (Nat.le_refl _))).trans hck
          have hr5 := HRR.out.below hbq
          have hb5 := HB.out.trans (hbq.mono HB.out.size)
          clear hck hbq
          go_wp2_with fail
          refine (refCornered_any _ o q _ hr5 HO.out hq4).mono ?_
          rintro e w6 ⟨v6, rfl, hcol6⟩
          have hr6 := hcol6.reads
          have hb6 := hb5.trans (hcol6.below.mono hb5.size)
          clear hck5 hr5 hb5 hcol6
          go_wp2_with fail
          refine (Clear_any _ _ _ hr6).mono ?_
          rintro e w7 ⟨rfl, hb7⟩
          rw [HX.out]
          have hb8 := hb6.trans (hb7.mono hb6.size)
          have hal : Below w7.heap.size w7 (w7.alloc (.cells #[.int .i64 ca, .int .i64 cb', .int .i64 cc, .int .i64 cd] 27)) := (Below.refl _ _).alloc (Nat.le_refl _) _
          have HB9 := Lib.hid (hb8.trans (hal.mono hb8.size))
          clear hb6 hb7 hb8 hal hr6
          go_wp2_with fail
          go_roundw
          case rel => exact ⟨k + 1, by omega, by go_num, HB9.out⟩
          case measure => simp [intOf]; omega
        · obtain ⟨j, hj⟩ : ∃ j, k - 1 = j := ⟨_, rfl⟩
          obtain ⟨_, _, hce, _, hcj⟩ := hcell j (by omega)
          cases hce
          obtain ⟨q2, hq2, _, _⟩ := HAT.out j (by omega)
          have hqq := HASC.out j k (by omega) (by omega)
          rw [hq, hq2] at hqq
          rw [hq2] at hcj
          have tk : decide (0 < k) = true := by simp; omega
          have tk' : decide ((0 : Int) < (k : Int)) = true := by simp; omega
          have tqq : decide ((q : Int) ≤ (q2 : Int)) = false := by simp; omega
          have tqq2 : decide (q ≤ q2) = false := by simp; omega
          have hjk : (k : Int) - 1 = (j : Int) := by omega
          have ew : IntKind.i64.wrap (j : Int) = (j : Int) := IntWalk.i64_in _ (by omega)
          have j0 : (0 : Int) ≤ (j : Int) := by omega
          have j1 : (j : Int) < (n : Int) := by omega
          clear hcell hq hqc hbr hrr hrcr hX hck' hk0 hj hq2 hqq
          go_wp2_with fail
          refine wp_region_quiet_lit (by kernel_rfl) (by kernel_rfl) ?_
          iterate 28 (first | go_big_quiet_step (fail) | quiet_step (fail))
          refine wpQuiet_nil ?_
          intro _ hw'
          obtain ⟨nq, hw''⟩ := hw'
          subst hw''
          have hbq := below_drewN wr nq
          generalize World.drewN wr nq = W5 at hbq ⊢
          have hck5 := (hbq.cell (p := ⟨cb, off + k, none⟩) (Nat.lt_of_lt_of_le hcb (Nat.le_refl _))).trans hck
          have hr5 := HRR.out.below hbq
          have hb5 := HB.out.trans (hbq.mono HB.out.size)
          clear hck hbq
          go_wp2_with fail
          refine (refCornered_any _ o q _ hr5 HO.out hq4).mono ?_
          rintro e w6 ⟨v6, rfl, hcol6⟩
          have hr6 := hcol6.reads
          have hb6 := hb5.trans (hcol6.below.mono hb5.size)
          clear hck5 hr5 hb5 hcol6
          go_wp2_with fail
          refine (Clear_any _ _ _ hr6).mono ?_
          rintro e w7 ⟨rfl, hb7⟩
          rw [HX.out]
          have hb8 := hb6.trans (hb7.mono hb6.size)
          have hal : Below w7.heap.size w7 (w7.alloc (.cells #[.int .i64 ca, .int .i64 cb', .int .i64 cc, .int .i64 cd] 27)) := (Below.refl _ _).alloc (Nat.le_refl _) _
          have HB9 := Lib.hid (hb8.trans (hal.mono hb8.size))
          clear hb6 hb7 hb8 hal hr6
          go_wp2_with fail
          go_roundw
          case rel => exact ⟨k + 1, by omega, by go_num, HB9.out⟩
          case measure => simp [intOf]; omega
      · have hb9 := hb4.trans (hbr.mono hb4.size)
        go_wp2_with (go_at_call 8; refine (awake_any _).mono ?_; rintro e w6 ⟨rfl, hb6⟩)
        go_ret
        exact ⟨rfl, hb9.trans (hb6.mono hb9.size)⟩
end Go.Proofs.Ytfhjfelbllphnaa
