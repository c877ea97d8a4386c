/- Maps keyed by strings, rows of strings of one's own; what is kept by its type. -/
import Derived.Test.YtfjbggodniemeaaTpB
import Derived.Test.YtfjbggodniemeaaMat
import Derived.Test.YtfjbggodniemeaaMap
import Derived.Maps.AppendAt
set_option linter.unusedVariables false
set_option linter.unusedSimpArgs false
namespace Go.Proofs.Ytfjbggodniemeaa
open Go.RowKit

/-- all rows of cells of a type are as they were -/
def SameT (e : TypeId) (w w' : World) : Prop := ∀ (g : Nat) (cs : Array Value) (fr : Nat × Nat), w.heap[g]? = some (.cells cs e fr) → w'.heap[g]? = some (.cells cs e fr)
theorem SameT.refl (e : TypeId) (w : World) : SameT e w w := fun _ _ _ h => h
theorem SameT.trans {e : TypeId} {a b c : World} (h : SameT e a b) (k : SameT e b c) : SameT e a c := fun g cs fr hg => k g cs fr (h g cs fr hg)
theorem SameT.below {e : TypeId} {w w' : World} (h : Below w.heap.size w w') : SameT e w w' := fun g cs fr hg => (h.block g (heap_lt hg)).trans hg
theorem SameT.alloc (e : TypeId) (w : World) (o : Obj) : SameT e w (w.alloc o) := fun g cs fr hg => alloc_old hg
theorem SameT.grown {e : TypeId} {w w' : World} {row : Option Nat} (h : w.grownBy w' row) (hr : ∀ r, row = some r → ∀ (cs : Array Value) (fr : Nat × Nat), w.heap[r]? ≠ some (.cells cs e fr)) : SameT e w w' := fun g cs fr hg => (h.block g (heap_lt hg) (fun e => hr g e.symm cs fr hg)).trans hg
theorem SameT.set {e t : TypeId} {w : World} {b j : Nat} {v : Value} {cs : Array Value} {fr : Nat × Nat} (hb : w.heap[b]? = some (.cells cs t fr)) (hne : t ≠ e) : SameT e w (w.setCell ⟨b, j, none⟩ v) := fun g cs' fr' hg => by
  refine (heap_setCell_other _ _ _ _ (fun he => ?_)).trans hg
  subst he
  rw [hb] at hg
  injection hg with h1
  injection h1 with _ h2 _
  exact hne h2
theorem own_sameT {w w' : World} {b : Nat} {e : TypeId} {k n : Nat} {v : Value} {xs : List Value} (h : w.ownsRow b e k v n xs) (hs : SameT e w w') : w'.ownsRow b e k v n xs := by
  obtain ⟨h1, h2 | ⟨g, cap, cur, h3, h4, h5, h6⟩⟩ := h
  · exact ⟨h1, .inl h2⟩
  · exact ⟨h1, .inr ⟨g, cap, cur, h3, h4, hs g _ _ h5, h6⟩⟩
theorem own_type {w : World} {b : Nat} {e : TypeId} {k n : Nat} {v : Value} {xs : List Value} (h : w.ownsRow b e k v n xs) : ∀ r, v.ownBlock = some r → ∃ cs, w.heap[r]? = some (.cells cs e (0, 0)) := by
  obtain ⟨h1, h2 | ⟨g, cap, cur, h3, h4, h5, h6⟩⟩ := h
  · intro r hr; rw [h2.1] at hr; cases hr
  · intro r hr; rw [h3] at hr; cases hr; exact ⟨cur, h5⟩
theorem SameT.own {e t : TypeId} {w w' : World} {b k n : Nat} {v : Value} {xs : List Value} (ho : w.ownsRow b t k v n xs) (hne : t ≠ e) (h : w.grownBy w' v.ownBlock) : SameT e w w' :=
  SameT.grown h fun r hr cs fr hc => by
    obtain ⟨cs', h2⟩ := own_type ho r hr
    rw [h2] at hc
    injection hc with h1
    injection h1 with _ h2 _
    exact hne h2
theorem RowsAre.sameT {base : Nat} {w w' : World} {vs : List Value} {xs : List (List Int)} (h : RowsAre base w vs xs) (hs : SameT 3 w w') : RowsAre base w' vs xs := h.imp fun _ _ h => own_sameT h hs

/-! ### string keys -/
theorem sv_inj {a b : List UInt8} (h : sv a = sv b) : a = b := by
  unfold sv at h
  injection h with h
  injection h with h
  simpa using h
theorem bytes_beq (a k : List UInt8) : ((⟨a.toArray⟩ : ByteArray) == ⟨k.toArray⟩) = decide (a = k) := by
  show (a.toArray == k.toArray) = decide (a = k)
  rw [Bool.eq_iff_iff, beq_iff_eq, decide_eq_true_eq]
  simp
theorem findNow_str (a : List UInt8) : ∀ (es : List MapEntry) (ks : List (List UInt8)) (i : Nat), es.map (·.key) = ks.map sv → Instr.findNow .string (sv a) es i = some (findSpec a ks es i)
  | [], [], _, _ => rfl
  | e :: es, k :: ks, i, h => by
    simp only [List.map_cons, List.cons.injEq] at h
    obtain ⟨h1, h2⟩ := h
    have ih := findNow_str a es ks (i + 1) h2
    by_cases hk : a = k
    · subst hk; simp [Instr.findNow, Instr.sameNow, h1, findSpec, bytes_beq]
    · simp [Instr.findNow, Instr.sameNow, h1, findSpec, hk, bytes_beq, ih]
  | [], k :: ks, _, h => by simp at h
  | e :: es, [], _, h => by simp at h
theorem key_str : KeyOK 9 sv where
  check := fun a em w => by kernel_rfl
  find := fun a es ks w h => by
    unfold Instr.findKey
    rw [Sem.run_bind, run_underlying Try.underlying9]
    simp only [Result.andThen_ok]
    rw [show Instr.findNow .string (sv a) es 0 = some (findSpec a ks es 0) from findNow_str a es ks 0 h]
    rfl
end Go.Proofs.Ytfjbggodniemeaa
