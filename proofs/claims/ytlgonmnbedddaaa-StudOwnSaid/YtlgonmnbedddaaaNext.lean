/- Next. -/
import Derived.Test.YtlgonmnbedddaaaItem
import Derived.Test.YtlgonmnbedddaaaCmp
set_option linter.unusedVariables false
set_option linter.unusedSimpArgs false
namespace Go.Proofs.Ytlgonmnbedddaaa
open Go.RowKit Go.Shelf
attribute [local go_sem] Oper.semAt_some

/-- the first clear order after an order -/
def nextL (l : List Int) : Option (List Int) := (clearsL l.length []).find? (fun m => ltB l m)
def optE (o : Option (List Int)) (e : Int) : Int := if o.isSome then 0 else e
def nextS (l : List Int) : List Int × Int := if (ordB l && decide (l.length ≤ 7)) = true then ((nextL l).getD [], optE (nextL l) 6) else ([], 2)

theorem find_pre {α : Type} {p : α → Bool} {l pre : List α} {x : α} (h : pre ++ [x] <+: l) (h1 : ∀ m ∈ pre, p m = false) (h2 : p x = true) : l.find? p = some x := by
  obtain ⟨r, rfl⟩ := h
  rw [List.append_assoc, List.find?_append, List.find?_eq_none.2 (fun a ha => by simp [h1 a ha])]
  simp [h2]
theorem find_no {α : Type} {p : α → Bool} {l : List α} (h1 : ∀ m ∈ l, p m = false) : l.find? p = none := List.find?_eq_none.2 (fun a ha => by simp [h1 a ha])
theorem mem_snoc_map {p : List Int → Bool} {pre : List (Value × List Int)} {x : Value × List Int} (h : ∀ y ∈ pre, p y.2 = false) (hx : p x.2 = false) : ∀ y ∈ pre ++ [x], p y.2 = false := fun y hy => by
  rcases List.mem_append.1 hy with hy | hy
  · exact h y hy
  · simp only [List.mem_singleton] at hy; subst hy; exact hx

end Go.Proofs.Ytlgonmnbedddaaa
