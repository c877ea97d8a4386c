/- StudListed. -/
import Derived.Test.YtbgempjfifonnaaTableN
import Derived.Test.YtbgempjfifonnaaFirstLaw
import Derived.Test.YtbgempjfifonnaaMod
import Derived.Test.YtbgempjfifonnaaAwake
set_option linter.unusedVariables false
set_option linter.unusedSimpArgs false
namespace Go.Proofs.Ytbgempjfifonnaa
open Go.RowKit

theorem itemS_row {m j : Nat} (h1 : 1 ≤ m) (h7 : m ≤ 7) (hj : j < (allTo m m).length) : itemS m j = ((allTo m m).getD j [], 0) := by
  unfold itemS
  rw [withinB_iff.2 ⟨by omega, by omega⟩, decide_eq_true (by omega : (0 : Int) ≤ (j : Int))]
  simp only [Bool.true_and, ↓reduceIte, itemL, itemE, Int.toNat_natCast]
  have hkl2 : j < (clearsL m []).length := by rw [← all_clears]; omega
  rw [if_pos hkl2, all_clears]; simp [List.getD_eq_getElem?_getD]
theorem nextS_row {m j : Nat} (h1 : 1 ≤ m) (h7 : m ≤ 7) (hj : j < (allTo m m).length) : nextS ((allTo m m).getD j []) = (((allTo m m)[j + 1]?).getD [], optE ((allTo m m)[j + 1]?) 6) := by
  unfold nextS
  have hm := row_mem hj
  rw [clear_ord hm h1 (by omega), (allTo_rows m m _ hm).2.2, decide_eq_true h7, next_row hj]; rfl
theorem clearS_clear {xs : List Int} (ho : ordB xs = true) (hc : clearB xs = true) : clearS xs = .tuple #[.agg zero4, .bool true, .int .i64 0] := by
  unfold clearS; rw [ho, firstClash_iff.2 hc]; rfl

set_option maxRecDepth 100000 in
set_option maxHeartbeats 3200000 in
theorem StudListed_walk (x y : Int) (w : World) (wn : -9223372036854775808 ≤ x ∧ x ≤ 9223372036854775807) (wk : -9223372036854775808 ≤ y ∧ y ≤ 9223372036854775807) :
    Calls Try.prog 3 #[.int .i64 x, .int .i64 y] w fun e w' => e = .returned (.bool true) ∧ Below w.heap.size w w' := by
  clear wn wk
  have hmr := modN_rng x (n := 7) (by omega)
  obtain ⟨q, hq⟩ : ∃ q : Nat, modN x 7 = q := ⟨(modN x 7).toNat, by omega⟩
  obtain ⟨n, hn⟩ : ∃ n : Nat, 1 + q = n := ⟨_, rfl⟩
  have hn1 : 1 ≤ n := by omega
  have hn7 : n ≤ 7 := by omega
  have hqn : (1 : Int) + (q : Int) = n := by omega
  have hlen := table_all hn1 hn7
  have hcpos : 1 ≤ tableN n ∧ tableN n ≤ 200 := by
    have : n = 1 ∨ n = 2 ∨ n = 3 ∨ n = 4 ∨ n = 5 ∨ n = 6 ∨ n = 7 := by omega
    rcases this with rfl | rfl | rfl | rfl | rfl | rfl | rfl <;> decide
  have hix : ∀ w, (Instr.index 26 (.agg #[.int .i64 0, .int .i64 1, .int .i64 2, .int .i64 4, .int .i64 12, .int .i64 40, .int .i64 116, .int .i64 200]) (.int .i64 n)).run Try.prog w = .ok (.int .i64 (tableN n)) w := by
    have : n = 1 ∨ n = 2 ∨ n = 3 ∨ n = 4 ∨ n = 5 ∨ n = 6 ∨ n = 7 := by omega
    rcases this with rfl | rfl | rfl | rfl | rfl | rfl | rfl <;> intro w <;> kernel_rfl
  obtain ⟨hc1, hc2⟩ := hcpos
  have hcs : countS n = ((tableN n : Int), 0) := by
    unfold countS
    rw [withinB_iff.2 ⟨by omega, by omega⟩]
    simp only [↓reduceIte, Int.toNat_natCast]
    rw [← all_clears, hlen]
  have hI := fun j (hj : j < tableN n) => itemS_row hn1 hn7 (by rw [hlen]; exact hj)
  have hN := fun j (hj : j < tableN n) => nextS_row hn1 hn7 (by rw [hlen]; exact hj)
  have hR := fun j (hj : j < tableN n) => row_mem (n := n) (by rw [hlen]; exact hj)
  have hS := fun i j (hij : i < j) (hj : j < tableN n) => sorted_at (all_sorted n) hij (by rw [hlen]; exact hj)
  have hG : ∀ j, j < tableN n → (allTo n n)[j]? = some ((allTo n n).getD j []) := fun j hj => by
    rw [List.getD_eq_getElem?_getD, List.getElem?_eq_getElem (by rw [hlen]; exact hj)]; rfl
  have hE : (allTo n n)[tableN n]? = none := List.getElem?_eq_none (by omega)
  have HIX := Lib.hid hix
  generalize hc : tableN n = c at *
  have hmk := modN_rng y (n := (c : Int)) (by omega)
  obtain ⟨k, hk⟩ : ∃ k : Nat, modN y c = k := ⟨(modN y c).toNat, by omega⟩
  have hkc : k < c := by omega
  have HQ := Lib.hid hq
  have HK := Lib.hid hk
  have HCS := Lib.hid hcs
  have HI := Lib.hid hI
  have HN := Lib.hid hN
  have HR := Lib.hid hR
  have HS := Lib.hid hS
  have HG := Lib.hid hG
  have HE := Lib.hid hE
  clear hq hk hcs hI hN hR hS hG hE hlen hc hmr hmk hn hix
  go_enter Try.func3, Try.ntmps3
  go_wp2_with fail
  refine (mod_any x 7 _ (by omega) (by omega)).mono ?_
  rintro e w' ⟨rfl, rfl⟩
  rw [HQ.out]
  go_wp2_with fail
  refine (Count_any _ _).mono ?_
  rintro e w1 ⟨rfl, hb1⟩
  rw [HCS.out]
  go_wp2_with fail
  rw [HIX.out]
  go_wp2_with fail
  refine (mod_any y c _ (by omega) (by omega)).mono ?_
  rintro e w' ⟨rfl, rfl⟩
  rw [HK.out]
  go_wp2_with fail
  refine (Item_any _ _ _ (by omega)).mono ?_
  rintro e w2 ⟨v, rfl, hr, hb2⟩
  rw [HI.out k hkc] at hr ⊢
  have hrows := allTo_rows n n _ (HR.out k hkc)
  have hord := clear_ord (HR.out k hkc) hn1 (by omega)
  have hcl := clearS_clear hord hrows.2.1
  have hns := HN.out k hkc
  have hnext : k + 1 < c → (allTo n n)[k + 1]? = some ((allTo n n).getD (k + 1) []) ∧ ltB ((allTo n n).getD k []) ((allTo n n).getD (k + 1) []) = true ∧ ((allTo n n).getD (k + 1) []).length = n ∧ itemS n ((k : Int) + 1) = ((allTo n n).getD (k + 1) [], 0) := fun h =>
    ⟨HG.out _ h, HS.out _ _ (by omega) h, (allTo_rows n n _ (HR.out _ h)).2.2, HI.out _ h⟩
  have HE2 : Hid (k + 1 = c → (allTo n n)[k + 1]? = none) := Lib.hid (fun h => by rw [h]; exact HE.out)
  have HNX := Lib.hid hnext
  have HLN := Lib.hid hrows.2.2
  have HO := Lib.hid hord
  unfold zero4 at hcl
  have HC := Lib.hid hcl
  have HNS := Lib.hid hns
  have hb := hb1.trans (hb2.mono hb1.size)
  clear hrows hord hcl hns hnext hb1 hb2 HIX HCS HI HN HR HS HG HE HK HQ
  generalize (allTo n n).getD k [] = row at *
  obtain ⟨va, vc, hve⟩ := reads_len hr
  rw [HLN.out] at hve
  subst hve
  go_wp2_with fail
  refine (refOrder_any _ _ _ hr).mono ?_
  rintro e w3 ⟨rfl, m3, rfl⟩
  rw [HO.out]
  have hr3 := hr.below (below_drewN w2 m3)
  have hb3 := hb.trans ((below_drewN w2 m3).mono hb.size)
  generalize World.drewN w2 m3 = W3 at hr3 hb3 ⊢
  clear hr hb
  go_wp2_with fail
  refine (Clear_any _ _ _ hr3).mono ?_
  rintro e w4 ⟨rfl, hb4⟩
  rw [HC.out]
  go_wp2_with fail
  have hal : Below w4.heap.size w4 (w4.alloc (.cells #[.int .i64 0, .int .i64 0, .int .i64 0, .int .i64 0] 31)) := (Below.refl _ _).alloc (Nat.le_refl _) _
  have hr5 := (hr3.below hb4).below hal
  have hb5 := (hb3.trans (hb4.mono hb3.size)).trans (hal.mono (hb3.trans (hb4.mono hb3.size)).size)
  generalize World.alloc w4 _ = W5 at hr5 hb5 ⊢
  clear hal hb4 hr3 hb3
  refine (Next_any _ _ _ hr5).mono ?_
  rintro e w6 ⟨v6, rfl, hr6, hb6⟩
  rw [HNS.out] at hr6 ⊢
  have hr56 := hr5.below hb6
  have hb7 := hb5.trans (hb6.mono hb5.size)
  clear hr5 hb5 hb6
  by_cases hlast : k + 1 = c
  · have tk : ((k : Int) == (c : Int) - 1) = true := by simp; omega
    rw [HE2.out hlast] at hr6 ⊢
    have hoe : optE (none : Option (List Int)) 6 = 6 := rfl
    rw [hoe]
    obtain ⟨ua, uc, rfl⟩ := reads_nil hr6
    go_wp2_with (go_at_call 10; refine (awake_any _).mono ?_; rintro e w9 ⟨rfl, hb9⟩)
    go_ret
    exact ⟨rfl, hb7.trans (hb9.mono hb7.size)⟩
  · have tk : ((k : Int) == (c : Int) - 1) = false := by simp; omega
    obtain ⟨e1, e2, e3, e4⟩ := HNX.out (by omega)
    rw [e1] at hr6 ⊢
    have hoe : optE (some ((allTo n n).getD (k + 1) [])) 6 = 0 := rfl
    rw [hoe]
    simp only [Option.getD_some] at hr6 ⊢
    have HLT := Lib.hid e2
    have HL2 := Lib.hid e3
    have HIT := Lib.hid e4
    clear e1 e2 e3 e4 hoe
    generalize (allTo n n).getD (k + 1) [] = row2 at *
    obtain ⟨ua, uc, hue⟩ := reads_len hr6
    rw [HL2.out] at hue
    subst hue
    go_wp2_with fail
    refine (Item_any _ _ _ (by omega)).mono ?_
    rintro e w8 ⟨v8, rfl, hr8, hb8⟩
    rw [HIT.out] at hr8 ⊢
    obtain ⟨za, zc, hze⟩ := reads_len hr8
    rw [HL2.out] at hze
    subst hze
    have hr68 := hr6.below hb8
    have hr58 := hr56.below hb8
    have hb9 := hb7.trans (hb8.mono hb7.size)
    clear hr6 hr56 hb7 hb8
    go_wp2_with fail
    refine (ints_same _ _ row2 _ hr68 hr8).mono ?_
    rintro e w9 ⟨rfl, m9, rfl⟩
    have hr89 := hr8.below (below_drewN w8 m9)
    have hr59 := hr58.below (below_drewN w8 m9)
    have hb10 := hb9.trans ((below_drewN w8 m9).mono hb9.size)
    generalize World.drewN w8 m9 = W9 at hr89 hr59 hb10 ⊢
    clear hr8 hr58 hr68 hb9
    go_wp2_with fail
    refine (before_any _ _ row row2 _ hr59 hr89 (by rw [HLN.out, HL2.out])).mono ?_
    rintro e w10 ⟨rfl, m10, rfl⟩
    rw [HLT.out]
    have hb11 := hb10.trans ((below_drewN W9 m10).mono hb10.size)
    generalize World.drewN W9 m10 = W10 at hb11 ⊢
    go_wp2_with (go_at_call 10; refine (awake_any _).mono ?_; rintro e w12 ⟨rfl, hb12⟩)
    go_ret
    exact ⟨rfl, hb11.trans (hb12.mono hb11.size)⟩
end Go.Proofs.Ytbgempjfifonnaa
