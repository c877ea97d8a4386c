/- Maps: an element is set anew; integer keys. -/
import Derived.Test.YtfjbggodniemeaaTpIdx
import Derived.Test.YtfjbggodniemeaaTpP
set_option linter.unusedVariables false
set_option linter.unusedSimpArgs false
namespace Go.Proofs.Ytfjbggodniemeaa
open Go.RowKit

def intKey (n : Int) : Value := .int .i64 n
theorem findNow_int (q : IntKind) (a : Int) : ∀ (es : List MapEntry) (ks : List Int) (i : Nat), es.map (·.key) = ks.map (Value.int q) → Instr.findNow (.int q) (.int q a) es i = some (findSpec a ks es i)
  | [], [], _, _ => rfl
  | e :: es, k :: ks, i, h => by
    simp only [List.map_cons, List.cons.injEq] at h
    obtain ⟨h1, h2⟩ := h
    have ih := findNow_int q a es ks (i + 1) h2
    by_cases hk : a = k
    · subst hk; simp [Instr.findNow, Instr.sameNow, h1, findSpec]
    · have hk2 : (a == k) = false := by simpa using hk
      simp [Instr.findNow, Instr.sameNow, h1, findSpec, hk, hk2, ih]
  | [], k :: ks, _, h => by simp at h
  | e :: es, [], _, h => by simp at h
theorem key_int : KeyOK 3 intKey where
  check := fun a em w => by kernel_rfl
  find := fun a es ks w h => by
    unfold Instr.findKey
    rw [Sem.run_bind, run_underlying Try.underlying3]
    simp only [Result.andThen_ok]
    rw [show Instr.findNow (.int .i64) (intKey a) es 0 = some (findSpec a ks es 0) from findNow_int .i64 a es ks 0 h]
    rfl
def setAt (kvs : List (Int × Value)) (a : Int) (v : Value) : List (Int × Value) := kvs.map fun p => if p.1 = a then (a, v) else p
theorem findSpec_at {a : Int} : ∀ {ks : List Int} {es : List MapEntry} {i : Nat}, a ∈ ks → es.length = ks.length → ∃ j u, findSpec a ks es i = some (i + j, u) ∧ ks[j]? = some a
  | ks, es, i, h, hl => by
    obtain ⟨j, h1, h2⟩ := findSpec_some (i := i) h hl
    exact ⟨j, _, h1, h2⟩
theorem setAt_keys (kvs : List (Int × Value)) (a : Int) (v : Value) : (setAt kvs a v).map (·.1) = kvs.map (·.1) := by
  unfold setAt; rw [List.map_map]
  refine List.map_congr_left fun p _ => ?_
  show (if p.1 = a then (a, v) else p).1 = p.1
  split
  · rename_i h; exact h.symm
  · rfl
theorem setAt_get {kvs : List (Int × Value)} (hn : (kvs.map (·.1)).Nodup) {a : Int} {v : Value} {j : Nat} (hj : (kvs.map (·.1))[j]? = some a) : ∀ i, (setAt kvs a v)[i]? = if i = j then some (a, v) else kvs[i]? := fun i => by
  unfold setAt
  rw [List.getElem?_map]
  obtain ⟨hjl, hja⟩ := List.getElem?_eq_some_iff.1 hj
  simp only [List.length_map] at hjl
  rw [List.getElem_map] at hja
  by_cases hij : i = j
  · subst hij
    rw [if_pos rfl, List.getElem?_eq_getElem hjl, Option.map_some, if_pos hja]
  · rw [if_neg hij]
    rcases hk : kvs[i]? with _ | p
    · rfl
    · rw [Option.map_some]
      have hp : ¬ p.1 = a := fun e => by
        obtain ⟨hil, hip⟩ := List.getElem?_eq_some_iff.1 hk
        refine hij ((List.getElem_inj (xs := kvs.map (·.1)) (h₀ := by simpa using hil) (h₁ := by simpa using hjl) hn).1 ?_)
        rw [List.getElem_map, List.getElem_map, hip, hja, e]
      rw [if_neg hp]
theorem run_mapUpdate_set {w : World} {b : Nat} {kvs : List (Int × Value)} {t et : TypeId} (ht : Try.prog.underlying t = some (.map 3 et)) (h : MapIs intKey w b kvs) (hn : (kvs.map (·.1)).Nodup) {a : Int} (ha : a ∈ kvs.map (·.1)) (v : Value) :
    ∃ w', (Instr.mapUpdate t (.map (some b)) (intKey a) v).run Try.prog w = .ok () w' ∧ MapIs intKey w' b (setAt kvs a v) ∧ w.grownBy w' (some b) := by
  obtain ⟨es, clock, h1, h2, h3⟩ := h
  have hf := key_int.find a es.toList (kvs.map (·.1)) w (by rw [h2, List.map_map]; rfl)
  have hl : es.toList.length = kvs.length := by have := congrArg List.length h3; simpa using this
  obtain ⟨j, u, hfs, hj⟩ := findSpec_at (i := 0) (es := es.toList) ha (by simpa using hl)
  rw [hfs, Nat.zero_add] at hf
  have hb := (Array.getElem?_eq_some_iff.1 h1).1
  have hget := setAt_get hn (v := v) hj
  have hkey : (Instr.keyThatStays (intKey a) (intKey a)).run Try.prog w = .ok (intKey a) w := by
    have hs : Instr.sameBits 10000 (intKey a) (intKey a) = true := by simp [Instr.sameBits, intKey]
    simp [Instr.keyThatStays, hs]
  have hkj : (es[j]?.map (·.key)).getD (intKey a) = intKey a := by
    have hki : (es.toList.map (·.key))[j]? = (kvs.map (fun p => intKey p.1))[j]? := by rw [h2]
    rw [List.getElem?_map, List.getElem?_map] at hki
    rw [List.getElem?_map] at hj
    obtain ⟨p, hp, hpa⟩ : ∃ p, kvs[j]? = some p ∧ p.1 = a := by simpa using hj
    rw [hp] at hki
    rw [← Array.getElem?_toList, hki]
    simp [hpa]
  refine ⟨{ w with heap := w.heap.setIfInBounds b (.map (es.modify j fun e => { e with key := intKey a, val := v }) clock) }, ?_, ⟨es.modify j fun e => { e with key := intKey a, val := v }, clock, ?_, ?_, ?_⟩, ⟨rfl, rfl, rfl, by simp, fun k hk hne => ?_⟩⟩
  · simp only [Instr.mapUpdate, getObj, setObj, Sem.run_bind, run_underlying ht, Result.andThen_ok, Sem.run, h1, Sem.run_pure, key_int.check, hf, hkj, hkey]
  · simp [hb]
  · apply List.ext_getElem?
    intro i
    have hki : (es.toList.map (·.key))[i]? = (kvs.map (fun p => intKey p.1))[i]? := by rw [h2]
    rw [List.getElem?_map, List.getElem?_map] at hki
    rw [List.getElem?_map, List.getElem?_map, hget i, Array.toList_modify, List.getElem?_modify]
    by_cases hij : j = i
    · subst hij
      have hje : ∃ e, es.toList[j]? = some e := ⟨_, List.getElem?_eq_getElem (by rw [hl]; have := (List.getElem?_eq_some_iff.1 hj).1; simpa using this)⟩
      obtain ⟨e, he⟩ := hje
      simp [he]
    · rw [if_neg (fun e => hij e.symm)]
      simpa [hij] using hki
  · apply List.ext_getElem?
    intro i
    have hki : (es.toList.map (·.val))[i]? = (kvs.map (·.2))[i]? := by rw [h3]
    rw [List.getElem?_map, List.getElem?_map] at hki
    rw [List.getElem?_map, List.getElem?_map, hget i, Array.toList_modify, List.getElem?_modify]
    by_cases hij : j = i
    · subst hij
      have hje : ∃ e, es.toList[j]? = some e := ⟨_, List.getElem?_eq_getElem (by rw [hl]; have := (List.getElem?_eq_some_iff.1 hj).1; simpa using this)⟩
      obtain ⟨e, he⟩ := hje
      simp [he]
    · rw [if_neg (fun e => hij e.symm)]
      simpa [hij] using hki
  · have : ¬ b = k := fun e => hne (by rw [e])
    simp [Array.getElem?_setIfInBounds, this]
theorem map_update_set_in {F : Fence} {nF : Nat} {ops : Array Oper} {rest : List Oper} {o : Oper} {a : Act} {Q : Exit → Act → World → Prop} {w : World} {b : Nat} {kvs : List (Int × Value)} {t et : TypeId} (hg : o.guard = none) (m x y : Operand) (hop : o.op = .mapUpdate t m x y) (ht : Try.prog.underlying t = some (.map 3 et))
    (hm : a.eval m = .map (some b)) (h : MapIs intKey w b kvs) (hn : (kvs.map (·.1)).Nodup) (k : Int) (v : Value) (hx : a.eval x = intKey k) (hy : a.eval y = v) (hk : k ∈ kvs.map (·.1))
    (hK : ∀ w', MapIs intKey w' b (setAt kvs k v) → w.grownBy w' (some b) → wpListIn F nF Try.prog ops Q rest (a.put o.dst undef) w') : wpListIn F nF Try.prog ops Q (o :: rest) a w := by
  obtain ⟨w', h1, h2, h3⟩ := run_mapUpdate_set ht h hn hk v
  exact wpListIn_opu hg (by rw [hop]; intro c h; cases h) (by simp [Oper.about, hop]) (by simp [execOp, hop, hm, hx, hy]) h1 (hK w' h2 h3)
end Go.Proofs.Ytfjbggodniemeaa
