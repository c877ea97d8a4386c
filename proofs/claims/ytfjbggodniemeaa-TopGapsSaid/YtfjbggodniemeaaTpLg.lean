/- tread: longest. -/
import Derived.Test.YtfjbggodniemeaaTpLon
import Derived.Laws.EntriesVeiled
set_option linter.unusedVariables false
set_option linter.unusedSimpArgs false
namespace Go.Proofs.Ytfjbggodniemeaa
open Go.RowKit

def lonsTo (k : Nat) : List Int := (List.range k).map lonV
theorem lonsTo_succ (k : Nat) : lonsTo (k + 1) = lonsTo k ++ [lonV k] := by unfold lonsTo; rw [List.range_succ, List.map_append]; rfl
theorem lonsTo_len (k : Nat) : (lonsTo k).length = k := by simp [lonsTo]
def AllIn (kvs : List (Int × Value)) : Prop := ∀ e ∈ kvs, ∃ q : Nat, e = ((q : Int), Value.int .i64 (lonV q))
theorem AllIn.onWay {kvs : List (Int × Value)} (h : AllIn kvs) (d : Int) : OnWay d kvs := fun q hq => by
  obtain ⟨q', h1⟩ := h _ hq
  have h2 := congrArg Prod.snd h1
  simp only [Value.int.injEq, true_and] at h2
  have := lonV_nn q'
  omega
theorem AllIn.ext {d : Int} {k1 k2 : List (Int × Value)} (h : AllIn k1) (k : Ext d k1 k2) : AllIn k2 := fun e he => by
  rcases k.new e he with h1 | ⟨q, h1, _⟩
  · exact h e h1
  · exact ⟨q, h1⟩
theorem KeepM.sameT {e : TypeId} {bm : Nat} {W W' : World} (h : KeepM bm W W') (hm : ∀ cs fr, W.heap[bm]? ≠ some (.cells cs e fr)) : SameT e W W' := fun g cs fr hg => by
  refine (h.block g (heap_lt hg) (fun he => ?_)).trans hg
  subst he; exact hm cs fr hg
theorem MapIs.ne {α : Type} {ek : α → Value} {W : World} {b : Nat} {kvs : List (α × Value)} (h : MapIs ek W b kvs) {t : TypeId} : ∀ cs fr, W.heap[b]? ≠ some (.cells cs t fr) := fun cs fr he => by
  obtain ⟨es, cl, h1, _⟩ := h
  rw [h1] at he; cases he
theorem LonW.only {W0 W W' : World} {P bm Bk Bx Bf : Nat} {kvs : List (Int × Value)} (h : LonW W0 P bm Bk Bx Bf W kvs) (ho : OnlyT 3 W W') (hb : Below W0.heap.size W0 W') : LonW W0 P bm Bk Bx Bf W' kvs :=
  ⟨ho _ _ h.k (cells_ne (by decide) _ _), ho.map h.m, h.nd, h.vals, ho _ _ h.x (cells_ne (by decide) _ _), ho _ _ h.f (cells_ne (by decide) _ _), hb⟩
abbrev lonF (w : World) : Value := .func (.func 39) #[] #[.pointer (some ⟨w.heap.size + 1 + 1, 0, none⟩), .pointer (some ⟨w.heap.size, 0, none⟩), .pointer (some ⟨w.heap.size + 1 + 1 + 1, 0, none⟩)]
abbrev lonM (P : Nat) (w : World) : World := (((w.alloc (.cells #[.pointer (some ⟨P, 0, none⟩)] 42)).alloc (.map #[] 0)).alloc (.cells #[.map (some (w.heap.size + 1))] 77)).alloc (.cells #[lonF w] 78)
theorem lonM_w (P : Nat) (w : World) : LonW w P (w.heap.size + 1) (w.heap.size + 1 + 1) w.heap.size (w.heap.size + 1 + 1 + 1) (lonM P w) [] ∧ (lonM P w).heap.size = w.heap.size + 4 := by
  have hm := MapIs.made intKey (w.alloc (.cells #[.pointer (some ⟨P, 0, none⟩)] 42))
  rw [show (w.alloc (.cells #[.pointer (some ⟨P, 0, none⟩)] 42)).heap.size = w.heap.size + 1 by simp] at hm
  refine ⟨⟨alloc_old (heap_alloc_at _ _ _ (by simp)), (hm.of_block (heap_alloc_lt _ _ _ (by simp))).of_block (heap_alloc_lt _ _ _ (by simp <;> omega)), by simp, by simp, alloc_old (alloc_old (alloc_old (heap_alloc_new _ _))), heap_alloc_at _ _ _ (by simp), ?_⟩, by simp [lonM]⟩
  exact ((((Below.refl _ _).alloc (Nat.le_refl _) _).alloc (by simp) _).alloc (by simp <;> omega) _).alloc (by simp <;> omega) _
set_option maxRecDepth 100000 in
set_option maxHeartbeats 3200000 in
theorem longest_any (P : Nat) (w : World) (hM : MRd w P 4 rows2) :
    Calls Try.prog 31 #[.pointer (some ⟨P, 0, none⟩)] w fun e w' => ∃ v, e = .returned v ∧ OwnRow w.heap.size w' v (lonsTo 4) ∧ Below w.heap.size w w' := by
  obtain ⟨⟨sa, scap, hsta⟩, _⟩ := id hM
  have HM := Lib.hid hM
  have hmm := @run_makeMap Try.prog
  obtain ⟨hlw, hsz⟩ := lonM_w P w
  have hst := (hlw.b.cell (p := ⟨P, 1, none⟩) (World.block_lt_of_cell? _ _ hsta)).trans hsta
  have HLW := Lib.hid hlw
  have HSZ := Lib.hid hsz
  clear hM hlw hsz hsta
  go_enter Try.func31, Try.ntmps31
  go_wp2_with fail
  clear hst hmm
  change Code.wp Try.prog _ _ _ (lonM P w)
  generalize hWL : lonM P w = WL at *
  have hlw := HLW.out
  have HVI : Hid (∀ (p : Nat) (W : World) (kvs : List (Int × Value)), p < 4 → LonW w P (w.heap.size + 1) (w.heap.size + 1 + 1) w.heap.size (w.heap.size + 1 + 1 + 1) W kvs → AllIn kvs → Calls Try.prog 39 #[.int .i64 p, .pointer (some ⟨w.heap.size + 1 + 1, 0, none⟩), .pointer (some ⟨w.heap.size, 0, none⟩), .pointer (some ⟨w.heap.size + 1 + 1 + 1, 0, none⟩)] W fun e W' => e = .returned (.int .i64 (lonV p)) ∧ (∃ kvs', LonW w P (w.heap.size + 1) (w.heap.size + 1 + 1) w.heap.size (w.heap.size + 1 + 1 + 1) W' kvs' ∧ AllIn kvs') ∧ KeepM (w.heap.size + 1) W W') := Lib.hid (fun p W kvs hp h ha =>
    (visit_any w P _ _ _ _ HM.out (by omega) 4 p W kvs (by have := lonV_le p; omega) hp h (ha.onWay _)).mono fun e W' ⟨h1, ⟨kvs', h2, h3⟩, h4⟩ => ⟨h1, ⟨kvs', h2, ha.ext h3⟩, h4⟩)
  clear hWL
  go_loopw [5, 14] (fun v i W => ∃ k : Nat, k ≤ 4 ∧ i = .int .i64 k ∧ (∃ kvs, LonW w P (w.heap.size + 1) (w.heap.size + 1 + 1) w.heap.size (w.heap.size + 1 + 1 + 1) W kvs ∧ AllIn kvs) ∧ OwnRow w.heap.size W v (lonsTo k)) (fun _ i _ => 4 - (intOf i).toNat)
  case atStart => exact ⟨0, by omega, rfl, ⟨[], hlw, fun e he => by cases he⟩, World.ownsRow_nil _ _ _ _⟩
  case round =>
    obtain ⟨k, hk, rfl, ⟨kvs, hw, hall⟩, hrow⟩ := hrel
    clear hlw
    by_cases hk4 : k < 4
    · have k1 : (k : Int) < 4 := by omega
      have cf := cell_of hw.f (j := 0) rfl
      have HV := Lib.hid (HVI.out k wr kvs hk4 hw hall)
      have HROW := Lib.hid hrow
      have HSM : Hid (∀ W', KeepM (w.heap.size + 1) wr W' → SameT 3 wr W') := Lib.hid (fun W' h => h.sameT hw.m.ne)
      obtain ⟨va, vcap, rfl⟩ := slice_form hrow
      rw [lonsTo_len] at *
      clear hw hall hrow
      go_wp2_with fail
      refine HV.out.mono ?_
      rintro e w2 ⟨rfl, ⟨kvs2, h2, ha2⟩, hk2⟩
      have hrow2 : OwnRow w.heap.size w2 _ (lonsTo k) := own_sameT HROW.out (HSM.out _ hk2)
      have HR2 : Hid (w2.ownsRow w.heap.size 3 1 (.slice va k vcap) ((lonsTo k).map (Value.int .i64)).length ((lonsTo k).map (Value.int .i64))) := Lib.hid (by rw [List.length_map]; exact hrow2)
      have HL2 := Lib.hid h2
      have hs2 := h2.b.size
      have HLN : Hid (((lonsTo k).map (Value.int .i64)).length ≤ 1000000000) := Lib.hid (by rw [List.length_map, lonsTo_len]; omega)
      clear cf HV HROW HSM hrow2 h2 hk2
      go_wp2_with (at_builtin; refine append_T elem_int rfl _ _ rfl HR2.out hs2 rfl (.int .i64 (lonV k)) rfl rfl HLN.out ?_; intro v3 w3 hown3 hb3 ho3 hne3)
      go_roundw
      case rel => exact ⟨k + 1, by omega, by go_num, ⟨kvs2, HL2.out.only ho3 (HL2.out.b.trans hb3), ha2⟩, by unfold OwnRow; rw [lonsTo_succ, List.map_append, List.length_append]; simpa using hown3⟩
      case measure => simp [intOf]; omega
    · have hke : k = 4 := by omega
      subst hke
      have HROW := Lib.hid hrow
      have HB := Lib.hid hw.b
      clear hw hrow hall
      go_wp2_with fail
      go_ret
      exact ⟨_, rfl, HROW.out, HB.out⟩
end Go.Proofs.Ytfjbggodniemeaa
