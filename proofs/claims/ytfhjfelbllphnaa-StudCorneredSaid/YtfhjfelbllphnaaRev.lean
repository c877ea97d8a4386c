/- The symmetry reversed: slices.Reverse of a clone. -/
import Derived.Test.YtfhjfelbllphnaaCloneO
import Derived.Test.YtfhjfelbllphnaaOrd
import Derived.Shelf.RegionOpenPlain
import Derived.Sort.WalkB12
import Derived.Lib.Walk
import Derived.Lib.SlicesMore
import Derived.Lib.OwnBridge
set_option linter.unusedVariables false
set_option linter.unusedSimpArgs false
namespace Go.Proofs.Ytfhjfelbllphnaa
open Go.RowKit Go.Shelf Go.Lib Go.Sort

theorem Col.nonnil {w0 w : World} {v : Value} {xs : List Int} (h : Col w0 w v xs) (hl : 1 ≤ xs.length) : v ≠ .slice none 0 0 := by
  rintro rfl
  obtain ⟨_, h2 | ⟨g, cap, cur, h3, h4⟩⟩ := h.own
  · have := h2.2; omega
  · cases h3

end Go.Proofs.Ytfhjfelbllphnaa
