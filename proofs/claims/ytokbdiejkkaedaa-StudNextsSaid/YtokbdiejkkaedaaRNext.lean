/- The reference's Before and Next. -/
import Derived.Test.YtokbdiejkkaedaaRAll
import Derived.Test.YtokbdiejkkaedaaCmp
import Derived.Test.YtokbdiejkkaedaaNext
set_option linter.unusedVariables false
set_option linter.unusedSimpArgs false
namespace Go.Proofs.Ytokbdiejkkaedaa
open Go.RowKit

set_option maxRecDepth 100000 in
set_option maxHeartbeats 800000 in
theorem before_any (v u : Value) (xs ys : List Int) (w : World) (hr : Reads w v xs) (hs : Reads w u ys) (hl : xs.length = ys.length) :
    Calls Try.prog 19 #[v, u] w fun e w' => e = .returned (.bool (ltB xs ys)) ∧ ∃ n, w' = w.drewN n := by
  obtain ⟨a, cap, rfl, h1, h2, hcell⟩ := hr.open
  obtain ⟨a2, cap2, rfl, h12, h22, hcell2⟩ := hs.open
  have h3 : xs.length ≤ 9223372036854775807 := by unfold maxLen at h2; omega
  generalize hn : xs.length = n at *
  have HN := Lib.hid hn
  have HL := Lib.hid hl
  clear h2 h22 hr hs hn
  rw [← hl] at hcell2 h12 ⊢
  clear hl
  go_enter Try.func19, Try.ntmps19
  go_wp2_with fail
  go_loopw [5] (fun i wr => ∃ k m : Nat, k ≤ n ∧ i = .int .i64 k ∧ xs.take k = ys.take k ∧ wr = w.drewN m) (fun i _ => n - (intOf i).toNat)
  case atStart => exact ⟨0, 0, by omega, rfl, by simp, rfl⟩
  case round =>
    obtain ⟨k, m, hk, rfl, ht, rfl⟩ := hrel
    have HT := Lib.hid ht
    clear ht
    by_cases hlt : k < n
    · obtain ⟨b, off, rfl, hb, hc⟩ := hcell k hlt
      obtain ⟨b2, off2, rfl, hb2, hc2⟩ := hcell2 k hlt
      clear hcell hcell2
      have k0 : (0 : Int) ≤ (k : Int) := by omega
      have k1 : (k : Int) < (n : Int) := by omega
      by_cases he : gi xs k = gi ys k
      · have he' : (gi xs k != gi ys k) = false := by simp [he]
        have HE := Lib.hid he
        clear he
        go_wp2_with fail
        go_quiet (fail)
        go_wp2_with fail
        go_roundw
        case rel => exact ⟨k + 1, _, by omega, by go_num, take_eq_succ (by have := HN.out; omega) (by have := HN.out; have := HL.out; omega) HT.out HE.out, by first | rfl | exact World.drewN_drewN ..⟩
        case measure => simp [intOf]; omega
      · have he' : (gi xs k != gi ys k) = true := by simp [he]
        have HE := Lib.hid he
        clear he
        go_wp2_with fail
        go_quiet (fail)
        go_wp2_with fail
        go_quiet (fail)
        go_wp2_with fail
        go_ret
        exact ⟨ret_bool (ltB_at (by have := HN.out; omega) (by have := HN.out; have := HL.out; omega) HT.out HE.out).symm, _, by first | rfl | exact World.drewN_drewN .. | (rw [World.drewN_drewN, World.drewN_drewN])⟩
    · obtain rfl : k = n := by omega
      have hsame : xs = ys := by
        have h := HT.out
        rwa [List.take_of_length_le (by have := HN.out; omega), List.take_of_length_le (by have := HN.out; have := HL.out; omega)] at h
      have HS := Lib.hid hsame
      clear hsame hcell hcell2
      go_wp2
      go_ret
      exact ⟨by rw [HS.out, ltB_irrefl]; rfl, _, rfl⟩

/-- a row and whether there is one -/
def RetOpt (w : World) (o : Option (List Int)) (e : Ending) (w' : World) : Prop := ∃ v, e = .returned (.tuple #[v, .bool o.isSome]) ∧ Reads w' v (o.getD []) ∧ Below w.heap.size w w'

theorem find_at {p : List Int → Bool} {l : List (List Int)} {k : Nat} (hk : k < l.length) (h1 : ∀ j, j < k → p (l.getD j []) = false) (h2 : p (l.getD k []) = true) : l.find? p = some (l.getD k []) := by
  refine find_pre (pre := l.take k) ?_ (fun m hm => ?_) h2
  · have : l.take k ++ [l.getD k []] = l.take (k + 1) := by rw [List.take_succ_eq_append_getElem hk]; simp [hk]
    rw [this]; exact List.take_prefix _ _
  · obtain ⟨j, hj, rfl⟩ := List.mem_take_iff_getElem.1 hm
    have := h1 j (by omega)
    have hj2 : j < l.length := by omega
    simpa [hj2] using this
theorem find_end {p : List Int → Bool} {l : List (List Int)} (h1 : ∀ j, j < l.length → p (l.getD j []) = false) : l.find? p = none := by
  refine find_no fun m hm => ?_
  obtain ⟨j, hj, rfl⟩ := List.getElem_of_mem hm
  simpa [hj] using h1 j hj

set_option maxRecDepth 100000 in
set_option maxHeartbeats 1600000 in
theorem refNext_any (v : Value) (xs : List Int) (w : World) (hr : Reads w v xs) (h7 : xs.length ≤ 7) :
    Calls Try.prog 8 #[v] w (RetOpt w (nextL xs)) := by
  obtain ⟨a, cap, rfl, _, _, _⟩ := hr.open
  have hr0 := hr
  generalize hn : xs.length = n at *
  have HN := Lib.hid hn
  clear hn hr
  go_enter Try.func8, Try.ntmps8
  go_wp2_with fail
  refine (refAll_any n _ h7).mono ?_
  rintro e w1 ⟨v1, rfl, hm⟩
  obtain ⟨ao, co, rfl, _, _, hcells⟩ := hm.open
  have hln := allTo_len h7 (Nat.le_refl n)
  have hb1 := hm.below
  have hr1 := hr0.below hb1
  have hmem : ∀ k, k < (allTo n n).length → ((allTo n n).getD k []).length = n := fun k hk => (allTo_rows n n _ (by
    rw [List.getD_eq_getElem?_getD, List.getElem?_eq_getElem hk]; exact List.getElem_mem _)).2.2
  have HNX : Hid (nextL xs = (allTo n n).find? (fun m => ltB xs m)) := Lib.hid (by unfold nextL; rw [HN.out, all_clears])
  generalize allTo n n = L at *
  generalize hL : L.length = k0 at *
  have HL := Lib.hid hL
  have HC := Lib.hid hcells
  have HM := Lib.hid hmem
  clear hm hr0 hcells hL hmem
  go_wp2_with fail
  go_loopw [5] (fun i wr => ∃ k m : Nat, k ≤ k0 ∧ i = .int .i64 k ∧ (∀ j, j < k → ltB xs (L.getD j []) = false) ∧ wr = w1.drewN m) (fun i _ => k0 - (intOf i).toNat)
  case atStart => exact ⟨0, 0, by omega, rfl, fun j hj => by omega, rfl⟩
  case round =>
    obtain ⟨k, m, hk, rfl, hno, rfl⟩ := hrel
    have HNO := Lib.hid hno
    clear hno
    by_cases hlt : k < k0
    · obtain ⟨b, r, rfl, hb, hc, hrow⟩ := HC.out k hlt
      have hlr := HM.out k hlt
      have HFA := Lib.hid (find_at (p := fun m => ltB xs m) (l := L) (k := k) (by rw [HL.out]; exact hlt) HNO.out)
      have HNO2 : Hid (ltB xs (L.getD k []) = false → ∀ j, j < k + 1 → ltB xs (L.getD j []) = false) := Lib.hid (fun h j hj => by
        by_cases e : j = k
        · subst e; exact h
        · exact HNO.out j (by omega))
      generalize L.getD k [] = row at hrow hlr HFA HNO2
      obtain ⟨ra, rl, rc, rfl⟩ : ∃ a l c, r = .slice a l c := by obtain ⟨a, c, h⟩ := reads_len hrow.reads; exact ⟨a, _, c, h⟩
      have j0 : (0 : Int) ≤ (k : Int) := by omega
      have j1 : (k : Int) < (k0 : Int) := by omega
      have HR1 := Lib.hid (hr1.below (below_drewN w1 m))
      have HR2 := Lib.hid (hrow.reads.below (below_drewN w1 m))
      have HLR : Hid (xs.length = row.length) := Lib.hid (by rw [HN.out, hlr])
      have HB : Hid (Below w.heap.size w (w1.drewN m)) := Lib.hid (hb1.trans ((below_drewN w1 m).mono hb1.size))
      clear hlr
      go_wp2_with fail
      refine (before_any _ _ xs row _ HR1.out HR2.out HLR.out).mono ?_
      rintro e w2 ⟨rfl, m2, rfl⟩
      rcases hlb : ltB xs row with _ | _
      · have HLB := Lib.hid hlb
        clear hlb
        go_wp2_with fail
        go_roundw
        case rel => exact ⟨k + 1, m + m2, by omega, by go_num, HNO2.out HLB.out, by first | rfl | exact World.drewN_drewN ..⟩
        case measure => simp [intOf]; omega
      · have HLB := Lib.hid hlb
        clear hlb
        have hb2 : Below w.heap.size w ((w1.drewN m).drewN m2) := HB.out.trans ((below_drewN _ _).mono HB.out.size)
        have hrd := HR2.out.below (below_drewN _ m2)
        have HNS : Hid (nextL xs = some row) := Lib.hid (by rw [HNX.out]; exact HFA.out HLB.out)
        generalize hW : World.drewN (World.drewN w1 m) m2 = W at hb2 hrd ⊢
        have hcW : W.cell? ⟨b, k, none⟩ = some (.slice ra rl rc) := by rw [← hW]; exact ((below_drewN _ _).cell (p := ⟨b, k, none⟩) (by simpa using hb)).trans (((below_drewN _ _).cell (p := ⟨b, k, none⟩) hb).trans hc)
        clear hW hc
        go_wp2_with fail
        go_ret2
        exact ⟨_, by rw [HNS.out]; rfl, by rw [HNS.out]; exact hrd, hb2⟩
    · obtain rfl : k = k0 := by omega
      have HNS : Hid (nextL xs = none) := Lib.hid (by rw [HNX.out]; exact find_end (fun j hj => HNO.out j (by have := HL.out; omega)))
      have hb2 : Below w.heap.size w (w1.drewN m) := hb1.trans ((below_drewN w1 m).mono hb1.size)
      go_wp2_with fail
      go_ret2
      exact ⟨_, by rw [HNS.out]; rfl, by rw [HNS.out]; exact Reads.nil _, hb2⟩
end Go.Proofs.Ytokbdiejkkaedaa
