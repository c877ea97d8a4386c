/- A slice that is read shows its length. -/
import Derived.Test.YtlgonmnbedddaaaBase
set_option linter.unusedVariables false
namespace Go.Proofs.Ytlgonmnbedddaaa
theorem reads_len {w : World} {v : Value} {xs : List Int} (h : Reads w v xs) : ∃ a cap, v = .slice a xs.length cap := by
  obtain ⟨a, cap, h1, _⟩ := h
  exact ⟨a, cap, h1⟩
end Go.Proofs.Ytlgonmnbedddaaa
