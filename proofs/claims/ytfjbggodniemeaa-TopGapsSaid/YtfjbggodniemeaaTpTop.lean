/- remouldtop: the body of TopGaps. -/
import Derived.Test.YtfjbggodniemeaaTpFo
set_option linter.unusedVariables false
set_option linter.unusedSimpArgs false
namespace Go.Proofs.Ytfjbggodniemeaa
open Go.RowKit

theorem wordOf_snoc (s : List UInt8) (c : UInt8) : wordOf (s ++ [c]) = wordOf s ++ [if c = 83 then 98 else 97] := by simp [wordOf]
theorem take_snoc (s : List UInt8) {i : Nat} (h : i < s.length) : s.take (i + 1) = s.take i ++ [s.getD i 0] := by
  rw [List.take_add_one, List.getElem?_eq_getElem h, List.getD_eq_getElem?_getD, List.getElem?_eq_getElem h]; rfl
theorem bytes_at (s : List UInt8) {k : Nat} (h : k < s.length) (hq : k < (⟨s.toArray⟩ : ByteArray).size) : (⟨s.toArray⟩ : ByteArray)[k] = s.getD k 0 := by
  rw [List.getD_eq_getElem?_getD, List.getElem?_eq_getElem h]; rfl
theorem byte_eq (c : UInt8) : (((c.toNat : Nat) : Int) == 83) = decide (c = 83) := by
  by_cases h : c = 83
  · subst h; rfl
  · rw [decide_eq_false h, beq_eq_false_iff_ne]
    intro e
    apply h
    apply UInt8.toNat_inj.1
    show c.toNat = 83
    omega
theorem bytes_part (l : List UInt8) (i k : Nat) : ByteArray.extract ⟨l.toArray⟩ i (i + k) = ⟨((l.drop i).take k).toArray⟩ := by
  apply ByteArray.ext
  rw [ByteArray.data_extract, List.extract_toArray, List.extract_eq_take_drop, show i + k - i = k by omega]
theorem beq_dec (x y : List UInt8) : (y == x) = decide (x = y) := by rw [Bool.eq_iff_iff, beq_iff_eq, decide_eq_true_eq]; exact eq_comm
theorem own_str {w : World} {b m pcap : Nat} {pa : Option Addr} {ps : List (List UInt8)} (h : w.ownsRow b 9 1 (.slice pa m pcap) m (ps.map sv)) (hl : ps.length = m) (h0 : 0 < m) : ∃ g, pa = some ⟨g, 0, none⟩ ∧ ∀ (W : World), Below w.heap.size w W → ∀ j, j < m → W.cell? ⟨g, j, none⟩ = some (sv (ps.getD j [])) := by
  have h2 := h
  obtain ⟨_, h1 | ⟨g, cap, cur, h3, _⟩⟩ := h
  · have := h1.2; omega
  · injection h3 with e1 e2 e3
    subst e1
    refine ⟨g, rfl, fun W hb j hj => ?_⟩
    have h4 := h2.cellAt j (by omega)
    refine (hb.cell (p := ⟨g, j, none⟩) (h2.lt g rfl).2).trans ?_
    rw [h4]
    simp [hl, hj]
set_option maxRecDepth 100000 in
set_option maxHeartbeats 6400000 in
theorem TopGaps_walk (a0 a1 : Int) (w : World) (hm : MaxAt w) :
    Calls Try.prog 3 #[.int .i64 a0, .int .i64 a1] w fun e w' => e = .returned (.bool true) ∧ Below w.heap.size w w' := by
  obtain ⟨N, hN⟩ : ∃ N : Nat, modN a0 61 = (N : Int) := ⟨(modN a0 61).toNat, by have := modN_rng a0 (n := 61) (by omega); omega⟩
  have hN61 : N < 61 := by have := modN_rng a0 (n := 61) (by omega); omega
  obtain ⟨K, hK⟩ : ∃ K : Nat, modN a1 ((N : Int) + 1) = (K : Int) := ⟨(modN a1 ((N : Int) + 1)).toNat, by have := modN_rng a1 (n := (N : Int) + 1) (by omega); omega⟩
  have hKN : K ≤ N := by have := modN_rng a1 (n := (N : Int) + 1) (by omega); omega
  have HM0 : Hid (∀ W : World, Calls Try.prog 4 #[.int .i64 a0, .int .i64 61] W fun e w' => e = .returned (.int .i64 N) ∧ W = w') := Lib.hid (fun W => by
    have := mod_any a0 61 W (by omega) (by omega)
    rw [hN] at this; exact this)
  have HM1 : Hid (∀ W : World, Calls Try.prog 4 #[.int .i64 a1, .int .i64 ((N : Int) + 1)] W fun e w' => e = .returned (.int .i64 K) ∧ W = w') := Lib.hid (fun W => by
    have := mod_any a1 ((N : Int) + 1) W (by omega) (by omega)
    rw [hK] at this; exact this)
  have HMX := Lib.hid hm
  obtain ⟨s, hs⟩ : ∃ s, gapStr N = s := ⟨_, rfl⟩
  have hsl : s.length = N := by rw [← hs]; exact word_len N hN61
  have HWS : Hid (wordG N = wordOf s) := Lib.hid (by rw [← hs]; rfl)
  have HGA : Hid (∀ W : World, Calls Try.prog 5 #[.int .i64 N] W fun e w' => e = .returned (.tuple #[sv s, .int .i64 0]) ∧ Below W.heap.size W w') := Lib.hid (fun W => by
    have := Gaps_any N (by omega) W
    rw [hs] at this; exact this)
  clear hN hK hm hs
  go_enter Try.func3, Try.ntmps3
  go_wp2_with fail
  refine (HM0.out _).mono ?_
  rintro e w1 ⟨rfl, rfl⟩
  go_wp2_with fail
  refine (HGA.out _).mono ?_
  rintro e w1 ⟨rfl, hb1⟩
  have HB1 := Lib.hid hb1
  clear hb1
  have hlen : (s.length : Int) = (N : Int) := by omega
  go_wp2_with fail
  go_loopw [7, 8] (fun wv iv W => ∃ k : Nat, k ≤ N ∧ iv = .int .i64 k ∧ wv = sv (wordOf (s.take k)) ∧ W = w1) (fun _ iv _ => N - (intOf iv).toNat)
  case atStart => exact ⟨0, by omega, rfl, rfl, rfl⟩
  case round =>
    obtain ⟨k, hk, rfl, rfl, rfl⟩ := hrel
    by_cases hkN : k < N
    · have hks : k < s.length := by omega
      have k0 : (0 : Int) ≤ (k : Int) := by omega
      have k1 : (k : Int) < (N : Int) := by omega
      have k2 : (k : Int) < (s.length : Int) := by omega
      obtain ⟨c, hc⟩ : ∃ c, s.getD k 0 = c := ⟨_, rfl⟩
      obtain ⟨y, hy⟩ : ∃ y, wordOf (s.take k) = y := ⟨_, rfl⟩
      have hyl : y.length = k := by rw [← hy]; simp [wordOf]; omega
      have HW : Hid (wordOf (s.take (k + 1)) = y ++ [if c = 83 then 98 else 97]) := Lib.hid (by rw [take_snoc s hks, hc, wordOf_snoc, hy])
      rw [hy]
      clear hy
      have hsz : k < (⟨s.toArray⟩ : ByteArray).size := hks
      have hsk : (⟨s.toArray⟩ : ByteArray)[k] = c := (bytes_at s hks hsz).trans hc
      have hbq := byte_eq c
      clear hc
      by_cases h83 : c = 83
      · rw [decide_eq_true h83] at hbq
        rw [if_pos h83] at HW
        clear h83
        go_wp2_with fail
        go_roundw
        case rel => exact ⟨k + 1, by omega, by go_num, by rw [HW.out]; exact congrArg Value.string (bytes_add y [98]), trivial⟩
        case measure => simp [intOf]; omega
      · rw [decide_eq_false h83] at hbq
        rw [if_neg h83] at HW
        clear h83
        go_wp2_with fail
        go_roundw
        case rel => exact ⟨k + 1, by omega, by go_num, by rw [HW.out]; exact congrArg Value.string (bytes_add y [97]), trivial⟩
        case measure => simp [intOf]; omega
    · have hkn : k = N := by omega
      subst hkn
      have hwk : s.take k = s := List.take_of_length_le (by omega)
      rw [hwk]
      have HWS' := HWS.out
      obtain ⟨wd, hwd⟩ : ∃ x, wordG k = x := ⟨_, rfl⟩
      rw [← HWS', hwd]
      clear hwk
      have hwl : wd.length = k := by rw [← hwd, HWS']; simp [wordOf, hsl]
      have HX : Hid ((wordB wd = true ∧ avoidsB ss1 wd = true) ∧ (∀ j, j ≤ wd.length → (idxRun rows1 wd j).2 < 15) ∧ (idxRun rows1 wd wd.length).1 = placeG k) := Lib.hid (by
        refine ⟨by rw [← hwd]; exact word_ok k hN61, fun j hj => by rw [← hwd]; exact idx_ok k hN61 j (by omega), ?_⟩
        rw [hwl, ← hwd]; rfl)
      obtain ⟨PL, hPL⟩ : ∃ x, placeG k = x := ⟨_, rfl⟩
      rw [hPL] at HX
      have HIT : Hid ((0 ≤ PL ∧ PL ≤ gi (cntTo rows1 k) 0 - 1) ∧ (∀ t, t ≤ k → (itmRun rows1 k PL t).2.2 < 15) ∧ (itmRun rows1 k PL k).2.1 = wd) := Lib.hid (by
        obtain ⟨i1, i2, i3⟩ := itm_ok k hN61
        rw [hPL] at i1 i2 i3
        exact ⟨i1, fun t ht => i3 t (by omega), by rw [i2, hwd]⟩)
      have HPT : Hid ((partsTo wd K (k - K + 1)).length ≤ K + 1) := Lib.hid (by rw [← hwd]; exact parts_few hN61 hKN)
      have HMXr := Lib.hid (HMX.out.below HB1.out)
      clear HWS HWS' hwd hPL hlen hsl hkN
      clear HGA HM0 HMX
      generalize hNk : k = N at *
      clear hNk
      go_wp2_with fail
      have hal : Below wr.heap.size wr (wr.alloc (.cells #[.string ⟨#[97, 97, 97]⟩, .string ⟨#[98, 98]⟩] 9)) := (Below.refl _ _).alloc (Nat.le_refl _) _
      have hcell : (wr.alloc (.cells #[.string ⟨#[97, 97, 97]⟩, .string ⟨#[98, 98]⟩] 9)).heap[wr.heap.size]? = some (.cells #[.string ⟨#[97, 97, 97]⟩, .string ⟨#[98, 98]⟩] 9 (0, 0)) := heap_alloc_new _ _
      have hrt : ReadsT (wr.alloc (.cells #[.string ⟨#[97, 97, 97]⟩, .string ⟨#[98, 98]⟩] 9)) (.slice (some ⟨wr.heap.size, 0, none⟩) 2 2) ss1 := ⟨wr.heap.size, 2, rfl, by simp, fun j hj => by
        have : j = 0 ∨ j = 1 := by simp [ss1] at hj; omega
        rcases this with rfl | rfl <;> exact cell_of hcell rfl⟩
      have hb2 := HB1.out.trans (hal.mono HB1.out.size)
      have hmx2 := HMXr.out.below hal
      clear hcell
      generalize hW2 : World.alloc wr _ = W2 at *
      refine (Index_any wd _ _ hrt hmx2 (by omega) HX.out.1.1 HX.out.1.2 HX.out.2.1).mono ?_
      rintro e w3 ⟨rfl, hb3⟩
      rw [HX.out.2.2]
      have hb3w := hb2.trans (hb3.mono hb2.size)
      have hrt3 := hrt.below hb3
      have hmx3 := hmx2.below hb3
      clear hb3 hb2 hrt hmx2 hal hW2 HX
      go_wp2_with fail
      refine (Item_any N PL _ _ hrt3 hmx3 (by omega) HIT.out.1.1 HIT.out.1.2 HIT.out.2.1).mono ?_
      rintro e w4 ⟨rfl, hb4⟩
      rw [HIT.out.2.2]
      have HBW := Lib.hid (hb3w.trans (hb4.mono hb3w.size))
      have HMX4 := Lib.hid (hmx3.below hb4)
      clear hb4 hb3w hrt3 hmx3 HIT
      have n1 : IntKind.i64.wrap ((N : Int) + 1) = (N : Int) + 1 := IntWalk.i64_in _ (by omega)
      go_wp2_with fail
      refine (HM1.out _).mono ?_
      rintro e w5 ⟨rfl, rfl⟩
      go_wp2_with fail
      clear n1
      go_loopw [14, 15] (fun pv iv W => ∃ i : Nat, i ≤ N - K + 1 ∧ iv = .int .i64 i ∧ W.ownsRow w4.heap.size 9 1 pv ((partsTo wd K i).map sv).length ((partsTo wd K i).map sv) ∧ Below w4.heap.size w4 W) (fun _ iv _ => N - K + 1 - (intOf iv).toNat)
      case atStart => exact ⟨0, by omega, rfl, World.ownsRow_nil _ _ _ _, Below.refl _ _⟩
      case round =>
        obtain ⟨i, hi, rfl, hown, hbw⟩ := hrel
        have n2 : IntKind.i64.wrap ((i : Int) + (K : Int)) = (i : Int) + (K : Int) := IntWalk.i64_in _ (by omega)
        have n3 : IntKind.i64.wrap ((i : Int) + 1) = (i : Int) + 1 := IntWalk.i64_in _ (by omega)
        have hpl := parts_len wd K i
        have HPS : Hid (partsTo wd K (i + 1) = if (wd.drop i).take K ∈ partsTo wd K i then partsTo wd K i else partsTo wd K i ++ [(wd.drop i).take K]) := Lib.hid rfl
        obtain ⟨x, hx⟩ : ∃ x, (wd.drop i).take K = x := ⟨_, rfl⟩
        have HEX : Hid (ByteArray.extract ⟨wd.toArray⟩ i (i + K) = ⟨x.toArray⟩) := Lib.hid (by rw [bytes_part, hx])
        rw [hx] at HPS
        by_cases hiN : i + K ≤ N
        · have i0 : (0 : Int) ≤ (i : Int) := by omega
          have i1 : (i : Int) + (K : Int) ≤ (N : Int) := by omega
          have i2 : (i : Int) + (K : Int) ≤ (wd.length : Int) := by omega
          have i3 : (i : Int) ≤ (i : Int) + (K : Int) := by omega
          obtain ⟨ps, hps⟩ : ∃ ps, partsTo wd K i = ps := ⟨_, rfl⟩
          rw [hps] at hown hpl HPS
          clear hx hps
          obtain ⟨pa, pcap, rfl⟩ := slice_form hown
          rw [List.length_map] at hown ⊢
          obtain ⟨m, hml⟩ : ∃ m, ps.length = m := ⟨_, rfl⟩
          rw [hml] at hown hpl ⊢
          have HOWN := Lib.hid hown
          have HBWW := Lib.hid hbw
          clear hown hbw
          go_wp2_with fail
          go_loopw [16, 17] (fun fv jv W => ∃ (j : Nat) (b : Bool), j ≤ m ∧ jv = .int .i64 j ∧ fv = .bool b ∧ b = decide (x ∈ ps.take j) ∧ Below wr.heap.size wr W) (fun _ jv _ => m - (intOf jv).toNat)
          case atStart => exact ⟨0, false, by omega, rfl, rfl, by simp, Below.refl _ _⟩
          case round =>
            obtain ⟨j, b, hj, rfl, rfl, hb, hbw2⟩ := hrel
            by_cases hjm : j < m
            · obtain ⟨g, rfl, hgc⟩ := own_str HOWN.out hml (by omega)
              have hcj := hgc _ hbw2 j hjm
              obtain ⟨y, hy⟩ : ∃ y, ps.getD j [] = y := ⟨_, rfl⟩
              rw [hy] at hcj
              have j0 : (0 : Int) ≤ (j : Int) := by omega
              have j1 : (j : Int) < (m : Int) := by omega
              have n4 : IntKind.i64.wrap ((j : Int) + 1) = (j : Int) + 1 := IntWalk.i64_in _ (by omega)
              have HNX : Hid (decide (x ∈ ps.take (j + 1)) = (b || decide (x = y))) := Lib.hid (by
                rw [hb, List.take_add_one, List.getElem?_eq_getElem (by omega), ← hy, List.getD_eq_getElem?_getD, List.getElem?_eq_getElem (by omega)]
                rw [Bool.eq_iff_iff]
                simp only [decide_eq_true_eq, Bool.or_eq_true, List.mem_append, Option.toList_some, List.mem_singleton, Option.getD_some])
              have HB2 := Lib.hid hbw2
              have hex := HEX.out
              have hbe := bytes_beq y x
              obtain ⟨d, hd⟩ : ∃ d, decide (y = x) = d := ⟨_, rfl⟩
              rw [hd] at hbe
              have HD : Hid (decide (x = y) = d) := Lib.hid (by rw [← hd]; simp [eq_comm])
              clear hy hgc hb hbw2 hd
              cases b
              · go_wp2_with fail
                go_quiet (fail)
                go_wp2_with fail
                refine ⟨⟨j + 1, (y == x), by omega, by go_num, rfl, by rw [HNX.out, Bool.false_or]; exact beq_dec x y, HB2.out.trans ((below_drewN _ _).mono HB2.out.size)⟩, ?_⟩
                simp [intOf]; omega
              · clear hcj hex hbe
                go_wp2_with fail
                go_quiet (fail)
                go_wp2_with fail
                refine ⟨⟨j + 1, true, by omega, by go_num, rfl, by rw [HNX.out]; rfl, HB2.out.trans ((below_drewN _ _).mono HB2.out.size)⟩, ?_⟩
                simp [intOf]; omega
            · have hjm2 : j = m := by omega
              subst hjm2
              rw [List.take_of_length_le (by omega)] at hb
              have HOW2 := Lib.hid (World.ownsRow.below' HOWN.out hbw2)
              have HB2 := Lib.hid (HBWW.out.trans (hbw2.mono HBWW.out.size))
              have i4 : wrap64 ((i : Int) + 1) = (i : Int) + 1 := wrap64_small (by omega) (by omega)
              clear HOWN HBWW hbw2
              cases b
              · have hno : x ∉ ps := by simpa using hb
                have HPS2 : Hid (partsTo wd K (i + 1) = ps ++ [x]) := Lib.hid (by rw [HPS.out, if_neg hno])
                have hex := HEX.out
                have HOW3 : Hid (wr.ownsRow w4.heap.size 9 1 (.slice pa j pcap) (ps.map sv).length (ps.map sv)) := Lib.hid (by rw [List.length_map, hml]; exact HOW2.out)
                have HLN : Hid ((ps.map sv).length ≤ 1000000000) := Lib.hid (by rw [List.length_map]; omega)
                have hw4 := HB2.out.size
                clear hb hno HPS
                go_wp2_with (at_builtin; refine append_T elem_str rfl _ _ rfl HOW3.out hw4 rfl (sv x) rfl rfl HLN.out ?_; intro v5 w5 hown5 hb5 ho5 hne5)
                go_roundw
                case rel => exact ⟨i + 1, by omega, by go_num, by rw [HPS2.out, List.map_append, List.length_append]; simpa using hown5, HB2.out.trans hb5⟩
                case measure => simp [intOf]; omega
              · have hno : x ∈ ps := by simpa using hb
                have HPS2 : Hid (partsTo wd K (i + 1) = ps) := Lib.hid (by rw [HPS.out, if_pos hno])
                clear hb hno HPS
                go_wp2_with fail
                go_roundw
                case rel => exact ⟨i + 1, by omega, by go_num, by rw [HPS2.out, List.length_map, hml]; exact HOW2.out, HB2.out⟩
                case measure => simp [intOf]; omega
        · have hie : i = N - K + 1 := by omega
          obtain ⟨pa, pcap, rfl⟩ := slice_form hown
          have hpt := HPT.out
          rw [← hie] at hpt
          rw [List.length_map]
          have hi1 : ¬ (i : Int) + (K : Int) ≤ (N : Int) := by omega
          have hi2 : (((partsTo wd K i).length : Nat) : Int) ≤ (K : Int) + 1 := by omega
          have n4 : IntKind.i64.wrap ((K : Int) + 1) = (K : Int) + 1 := IntWalk.i64_in _ (by omega)
          have HB2 := Lib.hid (HBW.out.trans (hbw.mono HBW.out.size))
          have HMX5 := Lib.hid (HMX4.out.below hbw)
          generalize (partsTo wd K i).length = pl at *
          clear hown hbw hpt hpl HPS HEX hx
          go_wp2_with fail
          refine (four_any _ HMX5.out).mono ?_
          rintro e w6 ⟨rfl, hb6⟩
          have HB6 := Lib.hid (HB2.out.trans (hb6.mono HB2.out.size))
          clear hb6
          go_wp2_with fail
          go_ret
          exact ⟨rfl, HB6.out⟩
end Go.Proofs.Ytfjbggodniemeaa
