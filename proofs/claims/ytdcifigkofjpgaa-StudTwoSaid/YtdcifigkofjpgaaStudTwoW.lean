/- StudTwo. -/
import Derived.Test.YtdcifigkofjpgaaTwoLaw
import Derived.Test.YtdcifigkofjpgaaTame
import Derived.Test.YtdcifigkofjpgaaTurn
import Derived.Test.YtdcifigkofjpgaaROrd
import Derived.Test.YtdcifigkofjpgaaLens
import Derived.Test.YtdcifigkofjpgaaAwake
set_option linter.unusedVariables false
set_option linter.unusedSimpArgs false
namespace Go.Proofs.Ytdcifigkofjpgaa
open Go.RowKit

/-- one of the first k symmetries gives ys -/
def seenB (xs ys : List Int) (k : Nat) : Bool := (List.range k).any fun j => decide (turnL xs j = ys)
theorem seenB_succ (xs ys : List Int) (k : Nat) : seenB xs ys (k + 1) = (seenB xs ys k || decide (turnL xs k = ys)) := by
  unfold seenB; rw [List.range_succ, List.any_append]; simp
theorem seenB_all {xs ys : List Int} {j : Nat} (hj : j < 8) (h : turnL xs j = ys) : seenB xs ys 8 = true := by
  unfold seenB; rw [List.any_eq_true]; exact ⟨j, List.mem_range.2 hj, by simpa using h⟩
theorem Turn_col {v : Value} {xs : List Int} {s : Nat} {w : World} (hr : Reads w v xs) (ho : ordB xs = true) (hs : s < 8) :
    Calls Try.prog 6 #[v, .int .i64 s] w fun e w' => ∃ a cap, e = .returned (.tuple #[.slice a xs.length cap, .int .i64 0]) ∧ Reads w' (.slice a xs.length cap) (turnL xs s) ∧ Below w.heap.size w w' :=
  (Turn_ok v xs s w hr ho (by omega)).mono fun e w' ⟨v', h1, h2⟩ => by
    obtain ⟨a, cap, h3⟩ := reads_len h2.reads
    rw [turnL_len] at h3
    subst h3
    exact ⟨a, cap, h1, h2.reads, h2.below⟩

set_option maxRecDepth 100000 in
set_option maxHeartbeats 3200000 in
theorem StudTwo_walk (x : Int) (sl : Value) (ls : List Int) (u v : Int) (w : World) (wx : -9223372036854775808 ≤ x ∧ x ≤ 9223372036854775807) (hr : Reads w sl ls) (hx : ∀ x ∈ ls, -9223372036854775808 ≤ x ∧ x ≤ 9223372036854775807) (hu : -9223372036854775808 ≤ u ∧ u ≤ 9223372036854775807) (hv : -9223372036854775808 ≤ v ∧ v ≤ 9223372036854775807) :
    Calls Try.prog 3 #[.int .i64 x, sl, .int .i64 u, .int .i64 v] w fun e w' => e = .returned (.bool true) ∧ Below w.heap.size w w' := by
  clear hx wx hu hv
  go_enter Try.func3, Try.ntmps3
  go_wp2_with fail
  refine (tame_any x _ ls 16 _ hr (by omega) (by omega)).mono ?_
  rintro e w1 ⟨l, xs, rfl, hne, hcol, ho, hl⟩
  obtain ⟨g, cap, rfl⟩ := hcol.some hne
  have hb1 := hcol.below
  have hr1 := hcol.reads
  have hms := modN_rng u (n := 8) (by omega)
  have hmt := modN_rng v (n := 8) (by omega)
  obtain ⟨s, hs⟩ : ∃ s : Nat, modN u 8 = s := ⟨(modN u 8).toNat, by omega⟩
  obtain ⟨t, ht⟩ : ∃ t : Nat, modN v 8 = t := ⟨(modN v 8).toNat, by omega⟩
  have hs8 : s < 8 := by omega
  have ht8 : t < 8 := by omega
  have HO := Lib.hid ho
  have HS := Lib.hid hs
  have HT := Lib.hid ht
  clear hcol hne ho hs ht hms hmt hr hl
  go_wp2_with fail
  refine (mod_any u 8 _ (by omega) (by omega)).mono ?_
  rintro e w' ⟨rfl, rfl⟩
  rw [HS.out]
  go_wp2_with fail
  refine (mod_any v 8 _ (by omega) (by omega)).mono ?_
  rintro e w' ⟨rfl, rfl⟩
  rw [HT.out]
  go_wp2_with fail
  refine (Turn_col hr1 HO.out hs8).mono ?_
  rintro e w2 ⟨ax, cx, rfl, hrx, hb2⟩
  have hr2 := hr1.below hb2
  have hb3 := hb1.trans (hb2.mono hb1.size)
  clear hr1 hb1 hb2
  have HOX : Hid (ordB (turnL xs s) = true) := Lib.hid (turnL_ord HO.out s)
  have HLX : Hid ((turnL xs s).length = xs.length) := Lib.hid (turnL_len xs s)
  go_wp2_with fail
  refine (refOrder_any _ _ _ hrx).mono ?_
  rintro e w3 ⟨rfl, m, rfl⟩
  rw [HOX.out]
  have hrx3 := hrx.below (below_drewN w2 m)
  have hr3 := hr2.below (below_drewN w2 m)
  have hb4 := hb3.trans ((below_drewN w2 m).mono hb3.size)
  generalize World.drewN w2 m = W3 at hrx3 hr3 hb4 ⊢
  clear hrx hr2 hb3
  go_wp2_with fail
  refine (Turn_col hrx3 HOX.out ht8).mono ?_
  rintro e w4 ⟨ay, cy, rfl, hry, hb5⟩
  rw [HLX.out] at hry ⊢
  have hY : turnL (turnL xs s) t = turnL xs (compS s t) := turn_two HO.out hs8 ht8
  have hseen : seenB xs (turnL (turnL xs s) t) 8 = true := seenB_all (compS_lt s hs8 t ht8) hY.symm
  have hlen : (turnL (turnL xs s) t).length = xs.length := by rw [turnL_len, turnL_len]
  have hback : turnL (turnL xs s) (backS s) = xs := turn_back HO.out hs8
  have HSEEN := Lib.hid hseen
  have HBACK := Lib.hid hback
  have HLY := Lib.hid hlen
  clear hY hseen hback hlen
  generalize turnL (turnL xs s) t = ys at hry HSEEN HLY
  generalize turnL xs s = zs at hrx3 HOX HLX HBACK
  have hr4 := hr3.below hb5
  have hrx4 := hrx3.below hb5
  have hb6 := hb4.trans (hb5.mono hb4.size)
  clear hr3 hrx3 hb4 hb5
  go_wp2_with fail
  go_loopw [14, 15] (fun f i wr => ∃ (k : Nat) (b : Bool), k ≤ 8 ∧ i = .int .i64 k ∧ f = .bool b ∧ seenB xs ys k = b ∧ Reads wr (.slice (some ⟨g, 0, none⟩) xs.length cap) xs ∧ Reads wr (.slice ax xs.length cx) zs ∧ Reads wr (.slice ay xs.length cy) ys ∧ Below w.heap.size w wr) (fun _ i _ => 8 - (intOf i).toNat)
  case atStart => exact ⟨0, false, by omega, rfl, rfl, rfl, hr4, hrx4, hry, hb6⟩
  case round =>
    obtain ⟨k, b, hk, rfl, rfl, hsb, q1, q2, q3, q4⟩ := hrel
    clear hr4 hrx4 hry hb6
    have HB := Lib.hid hsb
    clear hsb
    by_cases hlt : k < 8
    · go_wp2_with fail
      refine (Turn_col q1 HO.out hlt).mono ?_
      rintro e w5 ⟨az, cz, rfl, hrz, hbz⟩
      have p1 := q1.below hbz
      have p2 := q2.below hbz
      have p3 := q3.below hbz
      have p4 := q4.trans (hbz.mono q4.size)
      clear q1 q2 q3 q4 hbz
      cases b
      · go_wp2_with fail
        refine (ints_any _ _ _ _ _ hrz p3).mono ?_
        rintro e w6 ⟨rfl, m6, rfl⟩
        have p1' := p1.below (below_drewN w5 m6)
        have p2' := p2.below (below_drewN w5 m6)
        have p3' := p3.below (below_drewN w5 m6)
        have p4' := p4.trans ((below_drewN w5 m6).mono p4.size)
        generalize World.drewN w5 m6 = W6 at p1' p2' p3' p4' ⊢
        clear p1 p2 p3 p4 hrz
        have hsn := seenB_succ xs ys k
        rw [HB.out, Bool.false_or] at hsn
        have HSN := Lib.hid hsn
        clear hsn
        generalize decide (turnL xs k = ys) = bb at HSN ⊢
        go_wp2_with fail
        go_roundw
        case rel => exact ⟨k + 1, bb, by omega, by go_num, rfl, HSN.out, p1', p2', p3', p4'⟩
        case measure => simp [intOf]; omega
      · go_wp2_with fail
        go_roundw
        case rel => exact ⟨k + 1, true, by omega, by go_num, rfl, by rw [seenB_succ, HB.out]; rfl, p1, p2, p3, p4⟩
        case measure => simp [intOf]; omega
    · obtain rfl : k = 8 := by omega
      have hbt : b = true := by rw [← HB.out]; exact HSEEN.out
      subst hbt
      have fin : ∀ (bk : Nat), bk = backS s → Calls Try.prog 6 #[.slice ax xs.length cx, .int .i64 bk] wr fun e w' => ∃ a cap, e = .returned (.tuple #[.slice a xs.length cap, .int .i64 0]) ∧ Reads w' (.slice a xs.length cap) xs ∧ Below wr.heap.size wr w' := by
        intro bk hbk
        have h := Turn_col q2 HOX.out (show bk < 8 by rw [hbk]; exact backS_lt s hs8)
        rw [HLX.out, hbk, HBACK.out] at h
        rw [hbk]; exact h
      have FIN := Lib.hid fin
      clear fin HBACK
      by_cases h5 : s = 5
      · subst h5
        go_wp2_with fail
        refine (FIN.out 6 rfl).mono ?_
        rintro e w5 ⟨az, cz, rfl, hrz, hbz⟩
        have p1 := q1.below hbz
        have p4 := q4.trans (hbz.mono q4.size)
        go_wp2_with fail
        refine (ints_any _ _ _ _ _ hrz p1).mono ?_
        rintro e w6 ⟨rfl, m6, rfl⟩
        rw [decide_eq_true rfl]
        have p4' := p4.trans ((below_drewN w5 m6).mono p4.size)
        generalize World.drewN w5 m6 = W6 at p4' ⊢
        go_wp2_with (go_at_call 9; refine (awake_any _).mono ?_; rintro e w7 ⟨rfl, hb7⟩)
        go_ret
        exact ⟨rfl, p4'.trans (hb7.mono p4'.size)⟩
      · by_cases h6 : s = 6
        · subst h6
          go_wp2_with fail
          refine (FIN.out 5 rfl).mono ?_
          rintro e w5 ⟨az, cz, rfl, hrz, hbz⟩
          have p1 := q1.below hbz
          have p4 := q4.trans (hbz.mono q4.size)
          go_wp2_with fail
          refine (ints_any _ _ _ _ _ hrz p1).mono ?_
          rintro e w6 ⟨rfl, m6, rfl⟩
          rw [decide_eq_true rfl]
          have p4' := p4.trans ((below_drewN w5 m6).mono p4.size)
          generalize World.drewN w5 m6 = W6 at p4' ⊢
          go_wp2_with (go_at_call 9; refine (awake_any _).mono ?_; rintro e w7 ⟨rfl, hb7⟩)
          go_ret
          exact ⟨rfl, p4'.trans (hb7.mono p4'.size)⟩
        · have t5 : ((s : Int) == 5) = false := by simp; omega
          have t6 : ((s : Int) == 6) = false := by simp; omega
          have HBK : Hid (s = backS s) := Lib.hid (by unfold backS; rw [if_neg (by omega)])
          clear h5 h6
          go_wp2_with fail
          refine (FIN.out s HBK.out).mono ?_
          rintro e w5 ⟨az, cz, rfl, hrz, hbz⟩
          have p1 := q1.below hbz
          have p4 := q4.trans (hbz.mono q4.size)
          go_wp2_with fail
          refine (ints_any _ _ _ _ _ hrz p1).mono ?_
          rintro e w6 ⟨rfl, m6, rfl⟩
          rw [decide_eq_true rfl]
          have p4' := p4.trans ((below_drewN w5 m6).mono p4.size)
          generalize World.drewN w5 m6 = W6 at p4' ⊢
          go_wp2_with (go_at_call 9; refine (awake_any _).mono ?_; rintro e w7 ⟨rfl, hb7⟩)
          go_ret
          exact ⟨rfl, p4'.trans (hb7.mono p4'.size)⟩
end Go.Proofs.Ytdcifigkofjpgaa
