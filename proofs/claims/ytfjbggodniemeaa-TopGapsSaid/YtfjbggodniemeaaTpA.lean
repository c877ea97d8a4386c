/- tread: words and sets of patterns. -/
import Derived.Test.YtfjbggodniemeaaBase
import Derived.Test.YtfjbggodniemeaaTpShelf
import Derived.Shelf.Strings.FuncGrows
set_option linter.unusedVariables false
set_option linter.unusedSimpArgs false
namespace Go.Proofs.Ytfjbggodniemeaa
open Go.RowKit

abbrev sv (l : List UInt8) : Value := .string ⟨l.toArray⟩
theorem bto {w0 w w' : World} (h : Below w0.heap.size w0 w) (k : Below w.heap.size w w') : Below w0.heap.size w0 w' := h.trans (k.mono h.size)
/-- a slice of strings that is read -/
def ReadsT (w : World) (v : Value) (ss : List (List UInt8)) : Prop :=
  ∃ b cap, v = .slice (some ⟨b, 0, none⟩) ss.length cap ∧ b < w.heap.size ∧ ∀ j, j < ss.length → w.cell? ⟨b, j, none⟩ = some (sv (ss.getD j []))
theorem ReadsT.below {w w' : World} {v : Value} {ss : List (List UInt8)} (h : ReadsT w v ss) (hb : Below w.heap.size w w') : ReadsT w' v ss := by
  obtain ⟨b, cap, rfl, hlt, hc⟩ := h
  exact ⟨b, cap, rfl, Nat.lt_of_lt_of_le hlt hb.size, fun j hj => (hb.cell (p := ⟨b, j, none⟩) hlt).trans (hc j hj)⟩

def withinB (n lo hi : Int) : Bool := decide (lo ≤ n) && decide (n ≤ hi)
theorem withinT_any (n lo hi : Int) (w : World) :
    Calls Try.prog 18 #[.int .i64 n, .int .i64 lo, .int .i64 hi] w fun e w' => e = .returned (.bool (withinB n lo hi)) ∧ w = w' := by
  by_cases h : lo ≤ n
  all_goals
    go_enter Try.func18, Try.ntmps18
    go_wp2
    go_ret
    exact ⟨ret_bool (by unfold withinB; simp; try omega), rfl⟩
theorem withinG_any (n lo hi : Int) (w : World) :
    Calls Try.prog 9 #[.int .i64 n, .int .i64 lo, .int .i64 hi] w fun e w' => e = .returned (.bool (withinB n lo hi)) ∧ w = w' := by
  by_cases h : lo ≤ n
  all_goals
    go_enter Try.func9, Try.ntmps9
    go_wp2
    go_ret
    exact ⟨ret_bool (by unfold withinB; simp; try omega), rfl⟩

/-- a rune that is none of the first two letters -/
def outP (x : Nat) : Bool := decide (x < 97) || decide (99 ≤ x)
theorem word1_any (x : Nat) (b : Nat) (w : World) (hx : x ≤ 1114111) (hB : w.heap[b]? = some (.cells #[.int .i64 2] 3)) :
    Calls Try.prog 23 #[.int .i32 x, .pointer (some ⟨b, 0, none⟩)] w fun e w' => e = .returned (.bool (outP x)) ∧ w = w' := by
  have c0 := cell_of hB (j := 0) rfl
  by_cases h : x < 97
  · have h1 : (x : Int) < 97 := by omega
    go_enter Try.func23, Try.ntmps23
    go_wp2
    go_ret
    exact ⟨ret_bool (by unfold outP; simp [h]), rfl⟩
  · have h1 : ¬ (x : Int) < 97 := by omega
    have h2 : IntKind.i32.wrap ((x : Int) - 97) = (x : Int) - 97 := by simp [IntKind.wrap, IntKind.signed, IntKind.bits]; omega
    have h3 : IntKind.i64.wrap ((x : Int) - 97) = (x : Int) - 97 := by simp [IntKind.wrap, IntKind.signed, IntKind.bits]; omega
    go_enter Try.func23, Try.ntmps23
    go_wp2
    go_ret
    exact ⟨ret_bool (by unfold outP; simp [h]; omega), rfl⟩
def wordB (l : List UInt8) : Bool := !decide (0 ≤ Lib.idxFunc outP true ⟨l.toArray⟩)
set_option maxRecDepth 100000 in
theorem isWord_any (l : List UInt8) (w : World) :
    Calls Try.prog 13 #[.int .i64 2, sv l] w fun e w' => e = .returned (.bool (wordB l)) ∧ Below w.heap.size w w' := by
  have hal : Below w.heap.size w (w.alloc (.cells #[.int .i64 2] 3)) := (Below.refl _ _).alloc (Nat.le_refl _) _
  have hp : PredGrows Try.prog 23 #[.pointer (some ⟨w.heap.size, 0, none⟩)] outP (w.alloc (.cells #[.int .i64 2] 3)) := fun W x hx hb =>
    (word1_any x w.heap.size W hx ((hb.block _ (by simp)).trans (heap_alloc_new _ _))).mono fun e w' h => ⟨h.1, h.2 ▸ Below.refl _ _⟩
  go_enter Try.func13, Try.ntmps13
  go_wp2_with fail
  refine (Try.strings_ContainsFunc_grows 23 _ (enters_of Try.func23 (by kernel_rfl) rfl) outP ⟨l.toArray⟩ _ hp).mono ?_
  rintro e w' ⟨rfl, hb⟩
  go_wp2_with fail
  go_ret
  exact ⟨rfl, bto hal hb⟩

/-! ### avoids -/
/-- the cell of internal/bytealg.MaxLen holds some int -/
def MaxAt (w : World) : Prop := ∃ m, w.cell? ⟨0, 0, none⟩ = some (.int .i64 m)
theorem MaxAt.below {w w' : World} (h : MaxAt w) (hb : Below w.heap.size w w') : MaxAt w' := by
  obtain ⟨m, hm⟩ := h
  exact ⟨m, (hb.cell (p := ⟨0, 0, none⟩) (World.block_lt_of_cell? w _ hm)).trans hm⟩
def hasB (s p : List UInt8) : Bool := Lib.contains s p
theorem avoid1_any (s p : List UInt8) (b : Nat) (w : World) (hs : s.length < 1000) (hB : w.heap[b]? = some (.cells #[sv s] 9)) (hm : MaxAt w) :
    Calls Try.prog 28 #[sv p, .pointer (some ⟨b, 0, none⟩)] w fun e w' => e = .returned (.bool (hasB s p)) ∧ w = w' := by
  have c0 := cell_of hB (j := 0) rfl
  obtain ⟨m, hm⟩ := hm
  go_enter Try.func28, Try.ntmps28
  go_wp2_with fail
  refine (Try.strings_Contains ⟨s.toArray⟩ ⟨p.toArray⟩ m _ (by show s.toArray.size < _; simp; omega) hm).mono ?_
  rintro e w' ⟨rfl, rfl⟩
  go_wp2_with fail
  go_ret
  exact ⟨rfl, rfl⟩
def avoidsB (ss : List (List UInt8)) (s : List UInt8) : Bool := !ss.any fun p => hasB s p
set_option maxRecDepth 100000 in
set_option maxHeartbeats 800000 in
theorem indexAv_any (ss : List (List UInt8)) (v : Value) (s : List UInt8) (b : Nat) (w : World) (hr : ReadsT w v ss) (hn : ss.length ≤ 1000) (hs : s.length < 1000) (hB : w.heap[b]? = some (.cells #[sv s] 9)) (hm : MaxAt w) :
    Calls Try.prog 37 #[v, .func (.func 28) #[] #[.pointer (some ⟨b, 0, none⟩)]] w fun e w' => ∃ i : Int, e = .returned (.int .i64 i) ∧ decide (0 ≤ i) = (!avoidsB ss s) ∧ w = w' := by
  obtain ⟨c, cap, rfl, hlt, hcell⟩ := hr
  have HB := Lib.hid hB
  have HM := Lib.hid hm
  obtain ⟨m, hm2⟩ : ∃ m, ss.length = m := ⟨_, rfl⟩
  rw [hm2] at hcell hn ⊢
  have HCELL := Lib.hid hcell
  have HL := Lib.hid hm2
  clear hB hm hm2 hcell
  go_enter Try.func37, Try.ntmps37
  go_wp2_with fail
  go_loop [8] (fun i => ∃ k : Nat, k ≤ m ∧ i = .int .i64 k ∧ ∀ j, j < k → hasB s (ss.getD j []) = false) (fun i => m - (intOf i).toNat)
  case atStart => exact ⟨0, by omega, rfl, fun j hj => absurd hj (by omega)⟩
  case round =>
    obtain ⟨k, hk, rfl, hd⟩ := hrel
    have HD := Lib.hid hd
    clear hd
    by_cases hlt2 : k < m
    · have hck := HCELL.out k hlt2
      have k0 : (0 : Int) ≤ (k : Int) := by omega
      have k1 : (k : Int) < (m : Int) := by omega
      have HK : Hid (ss.getD k [] ∈ ss) := Lib.hid (by
        rw [List.getD_eq_getElem?_getD, List.getElem?_eq_getElem (by rw [HL.out]; exact hlt2)]; exact List.getElem_mem _)
      generalize hG : ss.getD k [] = p at *
      go_wp2_with fail
      refine (avoid1_any s p b _ hs HB.out HM.out).mono ?_
      rintro e w' ⟨rfl, rfl⟩
      rcases hh : hasB s p with _ | _
      · have HH := Lib.hid hh
        clear hh
        go_wp2_with fail
        go_round
        case rel => exact ⟨k + 1, by omega, by go_num, fun j hj => by
          by_cases e : j = k
          · subst e; rw [hG]; exact HH.out
          · exact HD.out j (by omega)⟩
        case measure => simp [intOf]; omega
      · have HH : Hid (avoidsB ss s = false) := Lib.hid (by
          unfold avoidsB
          rw [List.any_eq_true.2 ⟨p, HK.out, hh⟩]; rfl)
        clear hh
        go_wp2_with fail
        go_ret
        exact ⟨_, rfl, by rw [HH.out, decide_eq_true (by omega)]; rfl, rfl⟩
    · obtain rfl : k = m := by omega
      have hnlt : ¬ (k : Int) < (k : Int) := by omega
      have HC : Hid (avoidsB ss s = true) := Lib.hid (by
        unfold avoidsB
        rw [Bool.not_eq_true', List.any_eq_false]
        intro p hp
        obtain ⟨j, hj, rfl⟩ := List.getElem_of_mem hp
        have := HD.out j (by rw [← HL.out]; exact hj)
        rw [List.getD_eq_getElem?_getD, List.getElem?_eq_getElem hj] at this
        simpa using this)
      go_wp2_with fail
      go_ret
      exact ⟨_, rfl, by rw [HC.out]; rfl, rfl⟩
theorem containsAv_any (ss : List (List UInt8)) (v : Value) (s : List UInt8) (b : Nat) (w : World) (hr : ReadsT w v ss) (hn : ss.length ≤ 1000) (hs : s.length < 1000) (hB : w.heap[b]? = some (.cells #[sv s] 9)) (hm : MaxAt w) :
    Calls Try.prog 27 #[v, .func (.func 28) #[] #[.pointer (some ⟨b, 0, none⟩)]] w fun e w' => e = .returned (.bool (!avoidsB ss s)) ∧ w = w' := by
  have HX := Lib.hid (indexAv_any ss v s b w hr hn hs hB hm)
  obtain ⟨c, cap, rfl, hlt, hcell⟩ := hr
  clear hcell hB hm
  go_enter Try.func27, Try.ntmps27
  go_wp2_with fail
  refine HX.out.mono ?_
  rintro e w' ⟨i, rfl, hi, rfl⟩
  have HI := Lib.hid hi
  clear hi
  go_wp2_with fail
  go_ret
  exact ⟨ret_bool HI.out, rfl⟩
theorem avoids_any (ss : List (List UInt8)) (v : Value) (s : List UInt8) (w : World) (hr : ReadsT w v ss) (hn : ss.length ≤ 1000) (hs : s.length < 1000) (hm : MaxAt w) :
    Calls Try.prog 16 #[v, sv s] w fun e w' => e = .returned (.bool (avoidsB ss s)) ∧ Below w.heap.size w w' := by
  have hal : Below w.heap.size w (w.alloc (.cells #[sv s] 9)) := (Below.refl _ _).alloc (Nat.le_refl _) _
  have HX := Lib.hid (containsAv_any ss v s w.heap.size _ (hr.below hal) hn hs (heap_alloc_new w (.cells #[sv s] 9)) (hm.below hal))
  obtain ⟨c, cap, rfl, hlt, hcell⟩ := hr
  clear hcell hm
  go_enter Try.func16, Try.ntmps16
  go_wp2_with fail
  refine HX.out.mono ?_
  rintro e w' ⟨rfl, rfl⟩
  go_wp2_with fail
  go_ret
  exact ⟨ret_bool (by cases avoidsB ss s <;> rfl), hal⟩
end Go.Proofs.Ytfjbggodniemeaa
