/- StudOwn. -/
import Derived.Test.YtlgonmnbedddaaaOwnLaw
import Derived.Test.YtlgonmnbedddaaaFirstsLaw
import Derived.Test.YtlgonmnbedddaaaTwoLaw
import Derived.Test.YtlgonmnbedddaaaLens
import Derived.Test.YtlgonmnbedddaaaTurn
import Derived.Test.YtlgonmnbedddaaaTri
import Derived.Test.YtlgonmnbedddaaaCorn
import Derived.Test.YtlgonmnbedddaaaWorst
import Derived.Test.YtlgonmnbedddaaaClear
import Derived.Test.YtlgonmnbedddaaaTame
import Derived.Test.YtlgonmnbedddaaaList
import Derived.Test.YtlgonmnbedddaaaAwake
set_option linter.unusedVariables false
set_option linter.unusedSimpArgs false
namespace Go.Proofs.Ytlgonmnbedddaaa
open Go.RowKit

theorem rows_each {B : Nat} {w : World} : ∀ {vs : List Value} {xs : List (List Int)}, RowsAre B w vs xs → ∀ u ∈ vs, ∃ L, IRow B w u L
  | [], [], _, u, hu => by cases hu
  | _ :: _, _ :: _, h, u, hu => by
    rcases List.mem_cons.1 hu with rfl | hu
    · exact ⟨_, IRow.of h.1⟩
    · exact rows_each h.2 u hu
  | [], _ :: _, h, _, _ => h.elim
  | _ :: _, [], h, _, _ => h.elim
theorem clear_some {xs : List Int} (ho : ordB xs = true) : ∃ v, clearS xs = v := ⟨_, rfl⟩

set_option maxRecDepth 100000 in
set_option maxHeartbeats 12800000 in
theorem StudOwn_walk (x : Int) (sl : Value) (ls : List Int) (w : World) (wx : -9223372036854775808 ≤ x ∧ x ≤ 9223372036854775807) (hr : Reads w sl ls) (hx : ∀ x ∈ ls, -9223372036854775808 ≤ x ∧ x ≤ 9223372036854775807) :
    Calls Try.prog 3 #[.int .i64 x, sl] w fun e w' => e = .returned (.bool true) ∧ Below w.heap.size w w' := by
  clear hx wx
  go_enter Try.func3, Try.ntmps3
  go_wp2_with fail
  refine (tame_any x _ ls 15 _ hr (by omega) (by omega)).mono ?_
  rintro e w1 ⟨l, o, rfl, hne, hcol, ho, hl⟩
  obtain ⟨g, cap, rfl⟩ := hcol.some hne
  have hb1 := hcol.below
  have hr1 := hcol.reads
  have ho1 := hcol.row.mono (Nat.zero_le _)
  obtain ⟨hl1, hl2⟩ := ordB_len ho
  have hfl := firstL_len o
  have hf1 : firstS o = (firstL o, (((distTo o 8).length : Nat) : Int), 0) := by unfold firstS; rw [ho]; rfl
  have hcn : cornS o = (cornTo o 4, 0) := by unfold cornS; rw [ho, decide_eq_false (by omega : ¬ o.length = 16)]; rfl
  have ht0 := turn0 o
  have htl := triL_len o (o.length - 1)
  have htk : o.take 17 = o := List.take_of_length_le (by omega)
  have hcl : clearS o = clearS o := rfl
  generalize hn : o.length = n at *
  have HO := Lib.hid ho
  have HF := Lib.hid hf1
  have HFL := Lib.hid hfl
  have HCN := Lib.hid hcn
  have HT0 := Lib.hid ht0
  have HTL := Lib.hid htl
  have HTK := Lib.hid htk
  have HN := Lib.hid hn
  have hn15 : n ≤ 15 := by omega
  clear hcol hne ho hr hfl hf1 hcn ht0 htl htk hn hl2 hl hcl
  go_wp2_with fail
  refine (list_any _ o _ hr1).mono ?_
  rintro e w2 ⟨cv, rfl, hcol2⟩
  rw [HTK.out] at hcol2
  have hb2 := hb1.trans (hcol2.below.mono hb1.size)
  have ho2 := ho1.below hcol2.below
  have hc2 := hcol2.row.mono (Nat.zero_le _)
  obtain ⟨ka, kc, hcv⟩ := reads_len hcol2.reads
  rw [HN.out] at hcv
  subst hcv
  clear hcol2 hb1 hr1 ho1
  go_wp2_with fail
  refine (Triangle_ok _ _ _ HO.out ho2.reads).mono ?_
  rintro e w3 ⟨tv, rfl, hm3⟩
  rw [HN.out] at hm3
  have hb3 := hm3.below
  have ho3 := ho2.below hb3
  obtain ⟨ta, tc, hte, _, _, _⟩ := hm3.open
  rw [HTL.out] at hte
  subst hte
  go_wp2_with fail
  refine (Turn_ok _ _ 0 _ ho3.reads HO.out (by omega)).mono ?_
  rintro e w4 ⟨xv, rfl, hx4⟩
  rw [HT0.out] at hx4
  have hb4 := hb3.trans (hx4.below.mono hb3.size)
  have ho4 := ho3.below hx4.below
  have hm4 := hm3.step hx4.below
  have hxr := hx4.row.mono hb3.size
  obtain ⟨xa, xc, hxe⟩ := reads_len hx4.reads
  rw [HN.out] at hxe
  subst hxe
  clear hm3 hx4
  go_wp2_with fail
  refine (First_any _ _ _ ho4).mono ?_
  rintro e w5 ⟨yv, rfl, hy5⟩
  rw [HF.out] at hy5 ⊢
  simp only at hy5 ⊢
  have hb5 := hb4.trans (hy5.below.mono hb4.size)
  have ho5 := ho4.below hy5.below
  have hm5 := hm4.step hy5.below
  have hx5 := hxr.below hy5.below
  have hyr := hy5.row.mono hb4.size
  obtain ⟨ya, yc, hye⟩ := reads_len hy5.reads
  rw [HFL.out] at hye
  subst hye
  clear hm4 hxr hy5
  go_wp2_with fail
  refine (Corners_any _ _ _ ho5.reads).mono ?_
  rintro e w6 ⟨kv, rfl, hk6⟩
  rw [HCN.out] at hk6 ⊢
  have hb6 := hb5.trans (hk6.below.mono hb5.size)
  have ho6 := ho5.below hk6.below
  have hm6 := hm5.step hk6.below
  have hx6 := hx5.below hk6.below
  have hy6 := hyr.below hk6.below
  have hkr := hk6.row.mono hb5.size
  obtain ⟨qa, ql, qc, rfl⟩ := hk6.slice
  clear hm5 hx5 hyr hk6
  go_wp2_with fail
  refine (Clear_any _ _ _ ho6.reads).mono ?_
  rintro e w7 ⟨rfl, hb67⟩
  have hb7 := hb6.trans (hb67.mono hb6.size)
  have ho7 := ho6.below hb67
  have hm7 := hm6.step hb67
  have hx7 := hx6.below hb67
  have hy7 := hy6.below hb67
  have hk7 := hkr.below hb67
  generalize clearS o = cso
  clear hm6 hx6 hy6 hkr
  go_wp2_with fail
  refine (Worst_any _ _ _ ho7.reads).mono ?_
  rintro e w8 ⟨rfl, hb78⟩
  have hb8 := hb7.trans (hb78.mono hb7.size)
  have ho8 := ho7.below hb78
  have hm8 := hm7.step hb78
  have hx8 := hx7.below hb78
  have hy8 := hy7.below hb78
  have hk8 := hk7.below hb78
  have hc8 := hc2.below hb8
  generalize worstS o = wso
  clear hm7 hx7 hy7 hk7 hb67 hb78 hb3 hb4 hb5 hb6 hb7 ho3 ho4 ho5 ho6 ho7
  have HO2 := Lib.hid ho2
  have HC2 := Lib.hid hc2
  have HB2 := Lib.hid hb2
  clear ho2 hc2 hb2
  go_wp2_with fail
  refine (ints_same _ _ _ _ ho8.reads hc8.reads).mono ?_
  rintro e w9 ⟨rfl, m9, rfl⟩
  have hd1 := below_drewN w8 m9
  go_wp2_with fail
  refine (ints_same _ _ _ _ (hx8.reads.below hd1) (hc8.reads.below hd1)).mono ?_
  rintro e w10 ⟨rfl, m10, rfl⟩
  have hd2 := hd1.trans ((below_drewN (w8.drewN m9) m10).mono hd1.size)
  have hb10 := hb8.trans (hd2.mono hb8.size)
  have hm10 := hm8.step hd2
  have hx10 := hx8.below hd2
  have hy10 := hy8.below hd2
  have hk10 := hk8.below hd2
  generalize World.drewN _ m10 = W at hb10 hm10 hx10 hy10 hk10 ⊢
  clear hd1 hd2 hb8 ho8 hm8 hx8 hy8 hk8 hc8
  obtain ⟨ts, g1, g2, g3⟩ := hm10
  have htsl : ts.length = n - 1 := g2.len.trans HTL.out
  have hir : ∀ u ∈ ts ++ [Value.slice xa n xc, .slice ya n yc, .slice qa ql qc], ∃ L, IRow w2.heap.size W u L := by
    intro u hu
    rcases List.mem_append.1 hu with hu | hu
    · exact rows_each g2 u hu
    · simp only [List.mem_cons, List.not_mem_nil, or_false] at hu
      rcases hu with rfl | rfl | rfl
      · exact ⟨_, IRow.of hx10⟩
      · exact ⟨_, IRow.of hy10⟩
      · exact ⟨_, IRow.of hk10⟩
  have hones := g2.ones
  have hal : Below W.heap.size W (W.alloc (.cells #[] 22)) := (Below.refl _ _).alloc (Nat.le_refl _) _
  have hownA : (W.alloc (.cells #[] 22)).ownsRow w2.heap.size 22 1 (.slice (some ⟨W.heap.size, 0, none⟩) 0 0) ([] : List Value).length [] := World.ownsRow_made W #[] 0 hb10.size (by simp [maxLen]) (by simp)
  have HIR := Lib.hid (fun u hu => by obtain ⟨L, h⟩ := hir u hu; exact (⟨L, h.below hal⟩ : ∃ L, IRow w2.heap.size (W.alloc (.cells #[] 22)) u L))
  have HOWN := Lib.hid hownA
  have HONES := Lib.hid hones
  have HBA := Lib.hid (hb10.trans (hal.mono hb10.size))
  have HT := Lib.hid (World.ownsRow.below' g1 hal)
  have HTS := Lib.hid htsl
  clear g1 g2 g3 htsl hir hones hal hownA hx10 hy10 hk10 hb10
  go_wp2_with (first
    | (at_builtin; have hh := HOWN.out; clear HOWN; refine append_first rfl _ _ rfl hh HBA.out.size rfl rfl HT.out HONES.out (by have := HTS.out; omega) ?_; clear hh; intro v1 W1 hown1 hbel1 hrow1)
    | (at_builtin; refine append_rows rfl _ _ rfl (hown1.alloc (.cells #[.slice xa n xc, .slice ya n yc, .slice qa ql qc] 22)) (by have := (HBA.out.trans hbel1).size; simp; omega) rfl rfl rfl (fun j u hj => cell_of (heap_alloc_new W1 _) (by simpa using hj)) (by simp [Value.oneCell']) (by have := HTS.out; simp; omega) ?_; intro v2 W2 hown2 hbel2 hrow2))
  obtain ⟨vs3, hvs3⟩ : ∃ vs3, ts ++ [Value.slice xa n xc, .slice ya n yc, .slice qa ql qc] = vs3 := ⟨_, rfl⟩
  have HIR2 := HIR.out
  rw [hvs3] at hown2 HIR2
  obtain ⟨N3, hN3⟩ : ∃ N, vs3.length = N := ⟨_, rfl⟩
  have hN3b : N3 ≤ 100 := by have := HTS.out; rw [← hN3, ← hvs3]; simp; omega
  obtain ⟨A, capA, curA, he, hAB, hAh, hA1, hA2, hA3⟩ := own_some hown2 (by rw [← hvs3]; simp)
  rw [hN3] at he hA1
  subst he
  have hb12 : Below w2.heap.size w2 W2 := ((HBA.out.trans hbel1).alloc (HBA.out.trans hbel1).size (.cells #[.slice xa n xc, .slice ya n yc, .slice qa ql qc] 22)).trans hbel2
  have hout : Outs w2.heap.size w2 A vs3 W2 := ⟨hb12, curA, hAh, hA3, fun u hu => by
    obtain ⟨L, h⟩ := HIR2 u hu
    exact ⟨L, hrow2 _ _ ((hrow1 _ _ h).below ((Below.refl W1.heap.size W1).alloc (Nat.le_refl _) _))⟩⟩
  have HOUT := Lib.hid hout
  have HN3 := Lib.hid hN3
  have hcm : capA ≤ 9223372036854775807 := by unfold maxLen at hA2; omega
  clear HIR2 HIR hvs3 hown1 hown2 hbel1 hbel2 hrow1 hrow2 hAh hA3 hA2 hb12 hout hN3 HONES HT HTS HBA
  go_loopw [17, 18] (fun i jj W => ∃ k : Nat, k ≤ N3 ∧ i = .int .i64 k ∧ Outs w2.heap.size w2 A vs3 W) (fun i _ _ => N3 - (intOf i).toNat)
  case atStart => exact ⟨0, by omega, rfl, HOUT.out⟩
  case round =>
    obtain ⟨k, hk, rfl, hout⟩ := hrel
    by_cases hlt : k < N3
    · have hkl : k < vs3.length := by have := HN3.out; omega
      obtain ⟨r, hr⟩ : ∃ r, vs3[k]? = some r := ⟨_, List.getElem?_eq_getElem hkl⟩
      obtain ⟨hck, L, hrow⟩ := hout.at hr
      have HK := Lib.hid hr
      have HO1 := Lib.hid hout
      have k0 : (0 : Int) ≤ (k : Int) := by omega
      have k1 : (k : Int) < (N3 : Int) := by omega
      clear hr hkl
      rcases hrow with ⟨rfl, rfl⟩ | ⟨g7, cap7, cur7, rfl, hB7, hg7, hL7, hm7, hs7⟩
      · clear hck
        go_wp2_with fail
        go_loopw [18] (fun j W' => j = .int .i64 0 ∧ Outs w2.heap.size w2 A vs3 W') (fun _ _ => 0)
        case atStart => exact ⟨rfl, HO1.out⟩
        case round =>
          obtain ⟨rfl, hout2⟩ := hrel
          obtain ⟨hck, _⟩ := hout2.at HK.out
          have HO2' := Lib.hid hout2
          clear hout2
          go_wp2_with fail
          go_roundw
          case rel => exact ⟨k + 1, by omega, by go_num, HO2'.out⟩
          case measure => simp [intOf]; omega
      · have hm8 : cap7 ≤ 9223372036854775807 := by unfold maxLen at hm7; omega
        clear hck hg7 hs7 hm7
        go_wp2_with fail
        go_loopw [18] (fun j W' => ∃ q : Nat, q ≤ L ∧ j = .int .i64 q ∧ Outs w2.heap.size w2 A vs3 W') (fun j _ => L - (intOf j).toNat)
        case atStart => exact ⟨0, by omega, rfl, HO1.out⟩
        case round =>
          obtain ⟨q, hq, rfl, hout2⟩ := hrel
          obtain ⟨hck, L2, hrow2⟩ := hout2.at HK.out
          have HO2' := Lib.hid hout2
          clear hout2
          by_cases hql : q < L
          · rcases hrow2 with ⟨h9, _⟩ | ⟨g9, cap9, cur9, h9, hB9, hg9, hL9, hm9, hs9⟩
            · cases h9
            · cases h9
              have hqs : q < cur9.size := by omega
              have hst := cell_of hg9 (Array.getElem?_eq_getElem hqs)
              have hfr := free_of hg9 q
              have q0 : (0 : Int) ≤ (q : Int) := by omega
              have q1 : (q : Int) < (L : Int) := by omega
              have HG9 := Lib.hid hg9
              clear hg9
              go_wp2_with fail
              go_roundw
              case rel => exact ⟨q + 1, by omega, by go_num, HO2'.out.set hB9 HG9.out⟩
              case measure => simp [intOf]; omega
          · obtain rfl : q = L := by omega
            clear hrow2
            go_wp2_with fail
            go_roundw
            case rel => exact ⟨k + 1, by omega, by go_num, HO2'.out⟩
            case measure => simp [intOf]; omega
    · have hb13 := hout.1
      clear hout
      have ho13 := HO2.out.below hb13
      have hc13 := HC2.out.below hb13
      go_wp2_with fail
      refine (Turn_ok _ _ 0 _ ho13.reads HO.out (by omega)).mono ?_
      rintro e w14 ⟨zv, rfl, hz14⟩
      rw [HT0.out] at hz14
      have hb14 := hb13.trans (hz14.below.mono hb13.size)
      have ho14 := ho13.below hz14.below
      have hc14 := hc13.below hz14.below
      have hzr := hz14.reads
      obtain ⟨za, zc, hze⟩ := reads_len hzr
      rw [HN.out] at hze
      subst hze
      clear hz14 ho13 hc13
      go_wp2_with fail
      refine (First_any _ _ _ ho14).mono ?_
      rintro e w15 ⟨fv, rfl, hf15⟩
      rw [HF.out] at hf15 ⊢
      simp only at hf15 ⊢
      have hb15 := hb14.trans (hf15.below.mono hb14.size)
      have ho15 := ho14.below hf15.below
      have hc15 := hc14.below hf15.below
      have hz15 := hzr.below hf15.below
      have hfr := hf15.reads
      obtain ⟨fa, fc, hfe⟩ := reads_len hfr
      rw [HFL.out] at hfe
      subst hfe
      clear hf15 ho14 hc14 hzr
      go_wp2_with fail
      refine (refFirst_any _ _ _ hc15.reads HO.out).mono ?_
      rintro e w16 ⟨bv, rfl, hbr16, hb16'⟩
      rw [← first_best] at hbr16
      have hb16 := hb15.trans (hb16'.mono hb15.size)
      have ho16 := ho15.below hb16'
      have hc16 := hc15.below hb16'
      have hz16 := hz15.below hb16'
      have hf16 := hfr.below hb16'
      obtain ⟨ba, bc, hbe⟩ := reads_len hbr16
      rw [HFL.out] at hbe
      subst hbe
      clear hb16' ho15 hc15 hz15 hfr
      go_wp2_with fail
      refine (ints_same _ _ _ _ ho16.reads hc16.reads).mono ?_
      rintro e w17 ⟨rfl, m17, rfl⟩
      have hd17 := below_drewN w16 m17
      go_wp2_with fail
      refine (ints_same _ _ _ _ (hz16.below hd17) (hc16.reads.below hd17)).mono ?_
      rintro e w18 ⟨rfl, m18, rfl⟩
      have hd18 := below_drewN w16 (m17 + m18)
      go_wp2_with fail
      refine (ints_same _ _ _ _ (hf16.below hd18) (hbr16.below hd18)).mono ?_
      rintro e w19 ⟨rfl, m19, rfl⟩
      have hd19 := hd18.trans ((below_drewN (w16.drewN (m17 + m18)) m19).mono hd18.size)
      have hb19 := hb16.trans (hd19.mono hb16.size)
      generalize World.drewN _ m19 = W19 at hb19 ⊢
      go_wp2_with (go_at_call 14; refine (awake_any _).mono ?_; rintro e w20 ⟨rfl, hb20⟩)
      go_ret
      exact ⟨rfl, HB2.out.trans ((hb19.trans (hb20.mono hb19.size)).mono HB2.out.size)⟩
end Go.Proofs.Ytlgonmnbedddaaa
