/- ply: what the listed variables give: the library's table in memory; and the door's own heap meets the list. -/
import Derived.Test.YtfhcbaamibipcaaDoorRows
import Derived.Test.YtfhcbaamibipcaaDoorRangePts
import Derived.LaidMore
import Derived.OpenShut
import Derived.ChangeArms
set_option linter.unusedVariables false
set_option linter.unusedSimpArgs false
namespace Go.Proofs.YtfhcbaamibipcaaDoor
open Go.RowKit

abbrev laidL : List (String × DataW Unit) := [("math/bits.deBruijn32tab", Rows.laid_math_bits_deBruijn32tab), ("math/bits.deBruijn64tab", Rows.laid_math_bits_deBruijn64tab)]
theorem laid64_is : (Rows.laid_math_bits_deBruijn64tab : DataW Unit) = .agg (Lib.deBruijn64tab.map fun (n : Nat) => .lit (.int .u8 n)) := by kernel_rfl
theorem tab_of_laid {W : World} (h : laidMetH Tryd.prog laidL W) : Tab W := by
  rw [MakeChecks.laidMetH_plain _ _ _ (by kernel_rfl)] at h
  obtain ⟨ps, ⟨g0, t0, cs0, f0, p0, q0, hg0, ht0, hv0, hd0, ⟨g1, t1, cs1, f1, p1, q1, hg1, ht1, hv1, hd1, _, _⟩, _⟩, _, _⟩ := h
  obtain rfl := Option.some.inj ((show Tryd.prog.globalNamed "math/bits.deBruijn64tab" = some 1 by kernel_rfl).symm.trans hg1)
  obtain rfl := Option.some.inj ((show (Tryd.prog.globals[1]?).map (·.type) = some 79 by kernel_rfl).symm.trans ht1)
  obtain ⟨xs, m, _, ex, hlen, hl, hel⟩ := DataW.trod_array Tryd.underlying79 hd1
  have c5 : Tryd.prog.cellsOf 5 = 1 := by kernel_rfl
  rw [laid64_is] at ex
  have e3 := DataW.agg.inj (Prod.mk.inj ex).1
  have h64 : Lib.deBruijn64tab.length = 64 := rfl
  have key : ∀ tab : List Nat, tab.length = 64 → (tab.map fun (n : Nat) => (DataW.lit (.int .u8 n) : DataW Unit)) = xs.map (·.1) → TabAt 1 tab W := by
    intro tab htl e3 j hj
    have hj64 : j < 64 := by omega
    have hk := hel j hj64
    rw [c5, Nat.mul_one] at hk
    have hjx : j < xs.length := by omega
    rw [List.getElem?_eq_getElem hjx] at hk
    obtain ⟨z, hz1, hz2, _⟩ := DataW.trod_int Tryd.underlying5 hk
    have e4 := congrArg (fun l => l[j]?) e3
    simp only [List.getElem?_map, List.getElem?_eq_getElem hjx, List.getElem?_eq_getElem hj, Option.map_some, hz2] at e4
    have e5 : z = ((tab[j] : Nat) : Int) := by
      have h9 := DataW.lit.inj (Option.some.inj e4)
      simp only [Lit.int.injEq, true_and] at h9
      exact h9.symm
    have hc := World.var?_cell hg1 hv1 j
    rw [hc]
    have e6 : cs1[j]? = some (.int .u8 z) := by
      have := congrArg (fun l => l[0]?) hz1
      simpa using this
    rw [e6, e5]
    have e7 : tab.getD j 0 = tab[j] := by simp [List.getD_eq_getElem?_getD, List.getElem?_eq_getElem hj]
    rw [e7]
  exact key _ h64 e3
end Go.Proofs.YtfhcbaamibipcaaDoor
