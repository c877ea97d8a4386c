/- The reference's Before and Next. -/
import Derived.Test.YtekmmcbfbapjmaaRAll
import Derived.Test.YtekmmcbfbapjmaaCmp
import Derived.Test.YtekmmcbfbapjmaaNext
set_option linter.unusedVariables false
set_option linter.unusedSimpArgs false
namespace Go.Proofs.Ytekmmcbfbapjmaa
open Go.RowKit

/-- a row and whether there is one -/
def RetOpt (w : World) (o : Option (List Int)) (e : Ending) (w' : World) : Prop := ∃ v, e = .returned (.tuple #[v, .bool o.isSome]) ∧ Reads w' v (o.getD []) ∧ Below w.heap.size w w'

theorem find_at {p : List Int → Bool} {l : List (List Int)} {k : Nat} (hk : k < l.length) (h1 : ∀ j, j < k → p (l.getD j []) = false) (h2 : p (l.getD k []) = true) : l.find? p = some (l.getD k []) := by
  refine find_pre (pre := l.take k) ?_ (fun m hm => ?_) h2
  · have : l.take k ++ [l.getD k []] = l.take (k + 1) := by rw [List.take_succ_eq_append_getElem hk]; simp [hk]
    rw [this]; exact List.take_prefix _ _
  · obtain ⟨j, hj, rfl⟩ := List.mem_take_iff_getElem.1 hm
    have := h1 j (by omega)
    have hj2 : j < l.length := by omega
    simpa [hj2] using this
theorem find_end {p : List Int → Bool} {l : List (List Int)} (h1 : ∀ j, j < l.length → p (l.getD j []) = false) : l.find? p = none := by
  refine find_no fun m hm => ?_
  obtain ⟨j, hj, rfl⟩ := List.getElem_of_mem hm
  simpa [hj] using h1 j hj

end Go.Proofs.Ytekmmcbfbapjmaa
