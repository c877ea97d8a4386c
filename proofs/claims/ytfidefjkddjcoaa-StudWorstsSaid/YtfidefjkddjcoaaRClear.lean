/- The reference's Clear and IsClear. -/
import Derived.Test.YtfidefjkddjcoaaPairLaw
import Derived.Test.YtfidefjkddjcoaaEnum
set_option linter.unusedVariables false
set_option linter.unusedSimpArgs false
namespace Go.Proofs.Ytfidefjkddjcoaa
open Go.RowKit Go.Shelf

/-- a whole array or struct is stored into its variable -/
theorem store_row {w : World} {ops : Array Oper} {rest : List Oper} {o : Oper} {a : Act} {Q : Exit → Act → World → Prop} (hgd : o.guard = none) (ty : TypeId) (x y : Operand) (ho : o.op = .store ty x y)
    (g : Nat) (cells : Array Value) (hx : a.eval x = .pointer (some ⟨g, 0, none⟩)) (hy : a.eval y = .agg cells)
    (t : TypeId) (old : Array Value) (hg : w.heap[g]? = some (.cells old t (0, 0))) (hi : (Try.prog.info? ty).map (·.size) = some cells.size)
    (hold : old.size = cells.size) (h1 : cells.all (·.oneCell') = true)
    (h : wpList Try.prog ops Q rest (a.put o.dst undef) (w.setRow g cells)) : wpList Try.prog ops Q (o :: rest) a w :=
  wpList_opu hgd (s := Instr.storeAt ty (.pointer (some ⟨g, 0, none⟩)) (.agg cells)) (by simp [execOp, ho, hx, hy])
    (by simp only [Instr.storeAt, Instr.sureAddr, Sem.run_bind, Sem.run_pure, Result.andThen_ok, run_storeVar_row w g t ty old cells hg hi hold h1]) h
theorem results_cell_tmp {P : Program} {fn : Func} {p1 p2 : Tmp} {t1 : TypeId} (h : fn.results = #[.cell p1 t1, .tmp p2]) {tmps : Array Value} {w : World} {g1 : Nat} {v1 v2 : Value}
    (h1 : tmps.getD p1 undef = .pointer (some ⟨g1, 0, none⟩)) (h2 : tmps.getD p2 undef = v2)
    (l1 : (loadVar t1 ⟨g1, 0, none⟩).run P w = .ok v1 w) : (results fn tmps).run P w = .ok (.tuple #[v1, v2]) w := by
  have h1' : tmps[p1]?.getD undef = .pointer (some ⟨g1, 0, none⟩) := by simpa using h1
  have h2' : tmps[p2]?.getD undef = v2 := by simpa using h2
  simp [results, h, h1', h2', asAddr, l1]

def refClearS (xs : List Int) : Value := match firstClash xs with | none => .tuple #[.agg zero4, .bool true] | some (p, q) => .tuple #[.agg (four p q), .bool false]
theorem refClear_none {xs : List Int} (h : ∀ r ∈ pairsN xs.length, firstIn xs (pairsN xs.length) r = none) : refClearS xs = .tuple #[.agg zero4, .bool true] := by
  unfold refClearS; rw [firstClash_none h]
theorem refClear_some {xs : List Int} {i d k : Nat} (h0 : ∀ r ∈ uptoN xs.length i, firstIn xs (pairsN xs.length) r = none) (h1 : ∀ e, 0 < e → e < d → Free xs i e xs.length) (h2 : Free xs i d k) (hd : 0 < d) (hik : i < k) (hk : k + d < xs.length)
    (he : gi xs (i + d) - gi xs i = gi xs (k + d) - gi xs k) : refClearS xs = .tuple #[.agg (four (i, i + d) (k, k + d)), .bool false] := by
  unfold refClearS
  have hp := pairs_prefix (n := xs.length) (k := i) (m := d - 1) (by omega) (by omega)
  rw [show i + 1 + (d - 1) = i + d by omega] at hp
  rw [firstClash_some hp (fun r hr => ?_) (firstIn_at h2 hd hik hk he)]
  rcases List.mem_append.1 hr with hr | hr
  · exact h0 r hr
  · obtain ⟨a, b⟩ := r
    rw [mem_rowN] at hr
    simp only at hr
    obtain ⟨rfl, h3, h4⟩ := hr
    obtain ⟨e, rfl⟩ : ∃ e, b = a + e := ⟨b - a, by omega⟩
    exact firstIn_free (h1 e (by omega) (by omega)) (by omega)
theorem upto_step {xs : List Int} {i : Nat} (h0 : ∀ r ∈ uptoN xs.length i, firstIn xs (pairsN xs.length) r = none) (h1 : ∀ e, 0 < e → e < xs.length - i → Free xs i e xs.length) : ∀ r ∈ uptoN xs.length (i + 1), firstIn xs (pairsN xs.length) r = none := by
  intro r hr
  rw [uptoN_succ] at hr
  rcases List.mem_append.1 hr with hr | hr
  · exact h0 r hr
  · obtain ⟨a, b⟩ := r
    rw [mem_rowN] at hr
    simp only at hr
    obtain ⟨rfl, h3, h4⟩ := hr
    obtain ⟨e, rfl⟩ : ∃ e, b = a + e := ⟨b - a, by omega⟩
    exact firstIn_free (h1 e (by omega) (by omega)) (by omega)
theorem free_succ {xs : List Int} {i d k : Nat} (h : Free xs i d k) (hne : ¬ gi xs (i + d) - gi xs i = gi xs (k + d) - gi xs k) : Free xs i d (k + 1) := by
  intro m h1 h2 h3
  by_cases e : m = k
  · subst e; exact hne
  · exact h m h1 (by omega) h3
theorem free_all {xs : List Int} {i d k : Nat} (h : Free xs i d k) (hk : xs.length ≤ k + d) : Free xs i d xs.length := fun m h1 h2 h3 => h m h1 (by omega) h3
theorem free_start (xs : List Int) (i d : Nat) : Free xs i d (i + 1) := fun m h1 h2 _ => by omega
theorem free_next {xs : List Int} {i d : Nat} (h : ∀ e, 0 < e → e < d → Free xs i e xs.length) (h2 : Free xs i d xs.length) : ∀ e, 0 < e → e < d + 1 → Free xs i e xs.length := fun e h3 h4 => by
  by_cases he : e = d
  · subst he; exact h2
  · exact h e h3 (by omega)

/-- what stands while Clear runs -/
def RBase (w : World) (v : Value) (xs : List Int) (W : World) : Prop := W.heap[w.heap.size]? = some (.cells zero4 38) ∧ Below w.heap.size w W

theorem RBase.drewN {w : World} {v : Value} {xs : List Int} {W : World} (h : RBase w v xs W) (m : Nat) : RBase w v xs (W.drewN m) :=
  ⟨((below_drewN W m).block _ (heap_lt h.1)).trans h.1, h.2.trans ((below_drewN W m).mono h.2.size)⟩
set_option maxRecDepth 100000 in
set_option maxHeartbeats 3200000 in
theorem refClear_any (v : Value) (xs : List Int) (w : World) (hsm : ∀ j, -1000000 ≤ gi xs j ∧ gi xs j ≤ 1000000) (hn : xs.length ≤ 1000000) (hr : Reads w v xs) :
    Calls Try.prog 33 #[v] w fun e w' => e = .returned (refClearS xs) ∧ Below w.heap.size w w' := by
  obtain ⟨a, cap, rfl, h1, h2, hcell⟩ := hr.open
  have HSM := Lib.hid hsm
  have HC := Lib.hid hcell
  clear h2 h1 hr hsm hcell
  go_enter Try.func33, Try.ntmps33
  go_wp2_with fail
  have hW0 : (w.alloc (.cells zero4 38)).heap[w.heap.size]? = some (.cells zero4 38) := heap_alloc_new _ _
  have hb0 : Below w.heap.size w (w.alloc (.cells zero4 38)) := (Below.refl _ _).alloc (Nat.le_refl _) _
  have hB0 : RBase w (.slice a xs.length cap) xs (w.alloc (.cells zero4 38)) := ⟨hW0, hb0⟩
  clear hW0 hb0
  unfold zero4 at hB0
  generalize hW0 : World.alloc w _ = W0 at hB0 ⊢
  clear hW0
  go_loopw [4, 5, 6] (fun i _ _ wr => ∃ k : Nat, k ≤ xs.length ∧ i = .int .i64 k ∧ (∀ r ∈ uptoN xs.length k, firstIn xs (pairsN xs.length) r = none) ∧ RBase w (.slice a xs.length cap) xs wr) (fun i _ _ _ => xs.length - (intOf i).toNat)
  case atStart => exact ⟨0, by omega, rfl, by simp [uptoN], hB0⟩
  case round =>
    obtain ⟨i, hi, rfl, hup, hB⟩ := hrel
    have HU := Lib.hid hup
    clear hup
    by_cases hlt : i < xs.length
    · obtain ⟨b, off, rfl, hb, hci⟩ := HC.out i hlt
      have HC2 : Hid (∀ q, q < xs.length → w.cell? ⟨b, off + q, none⟩ = some (.int .i64 (gi xs q))) := Lib.hid (fun q hq => by
        obtain ⟨_, _, he, _, h⟩ := HC.out q hq
        cases he; exact h)
      clear HC
      have HCI := Lib.hid hci
      clear hci
      go_wp2_with fail
      obtain ⟨wo, rfl⟩ : ∃ wo : World, wo = wr := ⟨_, rfl⟩
      go_loopw [5, 6] (fun j _ wr => ∃ d : Nat, 0 < d ∧ i + d ≤ xs.length ∧ j = .int .i64 ((i + d : Nat) : Int) ∧ (∀ e, 0 < e → e < d → Free xs i e xs.length) ∧ RBase w (.slice (some ⟨b, off, none⟩) xs.length cap) xs wr) (fun j _ _ => xs.length - (intOf j).toNat)
      case atStart => exact ⟨1, by omega, by omega, by go_num, fun e h1 h2 => by omega, hB⟩
      case round =>
        obtain ⟨d, hd, hdn, rfl, hfr, hB1⟩ := hrel
        have HF := Lib.hid hfr
        clear hfr hB
        obtain ⟨j, hj⟩ : ∃ j, i + d = j := ⟨_, rfl⟩
        rw [hj]
        rw [hj] at hdn
        have HJ := Lib.hid hj
        have hij : i < j := by omega
        clear hj
        by_cases hjl : j < xs.length
        · go_wp2_with fail
          obtain ⟨wo, rfl⟩ : ∃ wo : World, wo = wr := ⟨_, rfl⟩
          go_loopw [6] (fun k wr => ∃ k' : Nat, i < k' ∧ k' ≤ xs.length ∧ k = .int .i64 (k' : Int) ∧ Free xs i d k' ∧ RBase w (.slice (some ⟨b, off, none⟩) xs.length cap) xs wr) (fun k _ => xs.length - (intOf k).toNat)
          case atStart => exact ⟨i + 1, by omega, by omega, by go_num, free_start xs i d, hB1⟩
          case round =>
            obtain ⟨k, hik, hkn, rfl, hfr, hB2⟩ := hrel
            have HFR := Lib.hid hfr
            clear hfr hB1
            obtain ⟨q, hq⟩ : ∃ q : Nat, (k : Int) + (j : Int) - (i : Int) = q := ⟨k + j - i, by omega⟩
            by_cases hql : q < xs.length
            · have hci : wr.cell? ⟨b, off + i, none⟩ = some (.int .i64 (gi xs i)) := (hB2.2.cell (p := ⟨b, off + i, none⟩) hb).trans HCI.out
              have hcj : wr.cell? ⟨b, off + j, none⟩ = some (.int .i64 (gi xs j)) := (hB2.2.cell (p := ⟨b, off + j, none⟩) hb).trans (HC2.out j hjl)
              have hck : wr.cell? ⟨b, off + k, none⟩ = some (.int .i64 (gi xs k)) := (hB2.2.cell (p := ⟨b, off + k, none⟩) hb).trans (HC2.out k (by omega))
              have hcq : wr.cell? ⟨b, off + q, none⟩ = some (.int .i64 (gi xs q)) := (hB2.2.cell (p := ⟨b, off + q, none⟩) hb).trans (HC2.out q hql)
              obtain ⟨r1, r1'⟩ := HSM.out i
              obtain ⟨r2, r2'⟩ := HSM.out j
              obtain ⟨r3, r3'⟩ := HSM.out k
              obtain ⟨r4, r4'⟩ := HSM.out q
              have i0 : (0 : Int) ≤ (i : Int) := by omega
              have i1 : (i : Int) < (xs.length : Int) := by omega
              have j0 : (0 : Int) ≤ (j : Int) := by omega
              have j1 : (j : Int) < (xs.length : Int) := by omega
              have k0 : (0 : Int) ≤ (k : Int) := by omega
              have k1 : (k : Int) < (xs.length : Int) := by omega
              have q0 : (0 : Int) ≤ (q : Int) := by omega
              have q1 : (q : Int) < (xs.length : Int) := by omega
              have hqd : k + d = q := by have := HJ.out; omega
              have HQD := Lib.hid hqd
              clear hqd
              by_cases he : gi xs j - gi xs i = gi xs q - gi xs k
              · have he' : ((gi xs j - gi xs i) == (gi xs q - gi xs k)) = true := by simp [he]
                have HE := Lib.hid he
                clear he
                go_wp2_with fail
                go_quiet (fail)
                have hB3 := RBase.drewN hB2 nq
                have HZ := Lib.hid hB3.1
                generalize World.drewN wr nq = W3 at hB3 HZ ⊢
                clear hci hcj hck hcq
                go_wp2_with (refine store_row rfl 38 (.tmp 2) (.tmp 64) rfl w.heap.size #[.int .i64 i, .int .i64 j, .int .i64 k, .int .i64 q] rfl rfl 38 zero4 HZ.out (by kernel_rfl) rfl (by simp [Value.oneCell']) ?_)
                refine bodyPost_ret (v := .tuple #[.agg #[.int .i64 i, .int .i64 j, .int .i64 k, .int .i64 q], .bool false]) (results_cell_tmp (g1 := w.heap.size) rfl rfl rfl (run_loadVar_row _ _ _ _ _ _ (.array 4 3) (setRow_same HZ.out) Try.underlying38 rfl (by kernel_rfl))) rfl ⟨?_, below_setRow hB3.2 (Nat.le_refl _) _⟩
                have h9 := refClear_some HU.out HF.out HFR.out hd hik (by rw [HQD.out]; exact hql) (by rw [HJ.out, HQD.out]; exact HE.out)
                rw [HJ.out, HQD.out] at h9
                rw [h9]; rfl
              · have he' : ((gi xs j - gi xs i) == (gi xs q - gi xs k)) = false := by simp [he]
                have HE := Lib.hid he
                clear he
                go_wp2_with fail
                go_quiet (fail)
                go_wp2_with fail
                go_roundw
                case rel => exact ⟨k + 1, by omega, by omega, by go_num, free_succ HFR.out (by have h1 := HE.out; rw [HJ.out, HQD.out]; exact h1), RBase.drewN hB2 _⟩
                case measure => simp [intOf]; omega
            · have hqn : xs.length ≤ k + d := by have := HJ.out; omega
              have HQN := Lib.hid hqn
              clear hqn
              go_wp2_with fail
              go_roundw
              case rel => exact ⟨d + 1, by omega, by have := HJ.out; omega, by rw [← HJ.out]; go_num, free_next HF.out (free_all HFR.out HQN.out), hB2⟩
              case measure => simp [intOf]; omega
        · have hjn : j = xs.length := by omega
          have HJN := Lib.hid hjn
          clear hjn
          go_wp2_with fail
          go_roundw
          case rel => exact ⟨i + 1, by omega, by go_num, upto_step HU.out (fun e h1 h2 => HF.out e h1 (by have := HJ.out; have := HJN.out; omega)), hB1⟩
          case measure => simp [intOf]; omega
    · have hin : i = xs.length := by omega
      have HI := Lib.hid hin
      have HZ := Lib.hid hB.1
      clear hin
      go_wp2_with (refine store_row rfl 38 (.tmp 2) (.tmp 65) rfl w.heap.size zero4 rfl rfl 38 zero4 HZ.out (by kernel_rfl) rfl (by simp [zero4, Value.oneCell']) ?_)
      refine bodyPost_ret (v := .tuple #[.agg zero4, .bool true]) (results_cell_tmp (g1 := w.heap.size) rfl rfl rfl (run_loadVar_row _ _ _ _ _ _ (.array 4 3) (setRow_same HZ.out) Try.underlying38 rfl (by kernel_rfl))) rfl ⟨?_, below_setRow hB.2 (Nat.le_refl _) _⟩
      rw [refClear_none (by have := HU.out; rwa [HI.out] at this)]

theorem refIsClear_any (v : Value) (xs : List Int) (w : World) (hsm : ∀ j, -1000000 ≤ gi xs j ∧ gi xs j ≤ 1000000) (hn : xs.length ≤ 1000000) (hr : Reads w v xs) :
    Calls Try.prog 22 #[v] w fun e w' => e = .returned (.bool (clearB xs)) ∧ Below w.heap.size w w' := by
  rcases hc : firstClash xs with _ | ⟨p, q⟩
  · have h1 : refClearS xs = .tuple #[.agg zero4, .bool true] := by unfold refClearS; rw [hc]
    have h2 := firstClash_iff.1 hc
    have H1 := Lib.hid h1
    have H2 := Lib.hid h2
    clear h1 h2 hc
    go_enter Try.func22, Try.ntmps22
    go_wp2_with fail
    refine (refClear_any _ xs _ hsm hn hr).mono ?_
    rintro e w1 ⟨rfl, hb1⟩
    rw [H1.out]
    unfold zero4
    go_wp2_with fail
    go_ret
    exact ⟨by rw [H2.out]; rfl, hb1.alloc hb1.size _⟩
  · have h1 : refClearS xs = .tuple #[.agg (four p q), .bool false] := by unfold refClearS; rw [hc]
    have h2 : clearB xs = false := by
      rcases h : clearB xs with _ | _
      · rfl
      · rw [← firstClash_iff, hc] at h; cases h
    have H1 := Lib.hid h1
    have H2 := Lib.hid h2
    clear h1 h2 hc
    go_enter Try.func22, Try.ntmps22
    go_wp2_with fail
    refine (refClear_any _ xs _ hsm hn hr).mono ?_
    rintro e w1 ⟨rfl, hb1⟩
    rw [H1.out]
    unfold four
    go_wp2_with fail
    go_ret
    exact ⟨by rw [H2.out]; rfl, hb1.alloc hb1.size _⟩
end Go.Proofs.Ytfidefjkddjcoaa
