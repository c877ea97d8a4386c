/- gauge: sums, products, powers. -/
import Derived.Test.YtfjbggodniemeaaTpK
set_option linter.unusedVariables false
set_option linter.unusedSimpArgs false
namespace Go.Proofs.Ytfjbggodniemeaa
open Go.RowKit

def gv (x : Int × Int) : Value := .agg #[.int .i64 x.1, .int .i64 x.2]
def gplus (x y : Int × Int) : Int × Int := (wrap64 (x.1 + y.1), wrap64 (x.2 + y.2))
def gprod (x y : Int × Int) : Int × Int := (wrap64 (wrap64 (x.1 * y.1) + wrap64 (x.2 * y.2)), wrap64 (wrap64 (wrap64 (x.1 * y.2) + wrap64 (x.2 * y.1)) + wrap64 (x.2 * y.2)))
def GoldAt (w : World) (b : Nat) (x : Int × Int) : Prop := w.heap[b]? = some (.cells #[.int .i64 x.1, .int .i64 x.2] 35 (0, 0))
theorem GoldAt.load {w : World} {b : Nat} {x : Int × Int} (h : GoldAt w b x) : (loadVar 35 ⟨b, 0, none⟩).run Try.prog w = .ok (gv x) w := by
  have c0 := cell_of h (j := 0) rfl
  have c1 := cell_of h (j := 1) rfl
  unfold loadVar
  rw [Sem.run_bind, show (isAgg 35).run Try.prog w = .ok true w by kernel_rfl]
  simp only [Result.andThen_ok]
  simp [go_sem, c0, c1, gv, Addr.add]
theorem results_var1 {P : Program} {fn : Func} {p : Tmp} {ty : TypeId} {tmps : Array Value} {w : World} {a : Addr} {v : Value} (h : fn.results = #[.cell p ty]) (hp : tmps.getD p undef = .pointer (some a)) (hl : (loadVar ty a).run P w = .ok v w) : (results fn tmps).run P w = .ok v w := by
  have hp' : tmps[p]?.getD undef = .pointer (some a) := by simpa using hp
  simp [results, h, hp', asAddr, hl]
theorem plus_any (x y : Int × Int) (w : World) :
    Calls Try.prog 11 #[gv x, gv y] w fun e w' => e = .returned (gv (gplus x y)) ∧ Below w.heap.size w w' := by
  obtain ⟨a, b⟩ := x
  obtain ⟨c, d⟩ := y
  show Calls Try.prog _ #[.agg #[.int .i64 a, .int .i64 b], .agg #[.int .i64 c, .int .i64 d]] w _
  go_enter Try.func11, Try.ntmps11
  go_wp2_with fail
  refine bodyPost_ret (results_var1 rfl rfl (GoldAt.load (b := w.heap.size + 1 + 1) (x := (wrap64 (a + c), wrap64 (b + d))) (heap_alloc_at _ _ _ (by simp)))) rfl ⟨rfl, ?_⟩
  exact (((Below.refl _ w).alloc (Nat.le_refl _) _).alloc (by simp) _).alloc (by simp <;> omega) _
theorem product_any (x y : Int × Int) (w : World) :
    Calls Try.prog 40 #[gv x, gv y] w fun e w' => e = .returned (gv (gprod x y)) ∧ Below w.heap.size w w' := by
  obtain ⟨a, b⟩ := x
  obtain ⟨c, d⟩ := y
  show Calls Try.prog _ #[.agg #[.int .i64 a, .int .i64 b], .agg #[.int .i64 c, .int .i64 d]] w _
  go_enter Try.func40, Try.ntmps40
  go_wp2_with fail
  refine bodyPost_ret (results_var1 rfl rfl (GoldAt.load (b := w.heap.size + 1 + 1) (x := gprod (a, b) (c, d)) (heap_alloc_at _ _ _ (by simp)))) rfl ⟨rfl, ?_⟩
  exact (((Below.refl _ w).alloc (Nat.le_refl _) _).alloc (by simp) _).alloc (by simp <;> omega) _
theorem of_any (B k : Nat) (x : Int × Int) (w : World) (hk : k ≤ 40) (h0 : w.cell? ⟨B, (40 + k) * 2, none⟩ = some (.int .i64 x.1)) (h1 : w.cell? ⟨B, (40 + k) * 2 + 1, none⟩ = some (.int .i64 x.2)) :
    Calls Try.prog 33 #[.pointer (some ⟨B, 0, none⟩), .int .i64 k] w fun e w' => e = .returned (gv x) ∧ Below w.heap.size w w' := by
  obtain ⟨a, b⟩ := x
  have k0 : (0 : Int) ≤ 40 + (k : Int) := by omega
  have k1 : 40 + (k : Int) < 81 := by omega
  have hw : wrap64 (40 + (k : Int)) = 40 + (k : Int) := wrap64_small (by omega) (by omega)
  have hlt := World.block_lt_of_cell? _ _ h0
  have hn : ((40 : Int) + (k : Int)).toNat = 40 + k := by omega
  have q0 : (w.alloc (.cells #[.int .i64 0, .int .i64 0] 35)).cell? ⟨B, (40 + k) * 2, none⟩ = some (.int .i64 a) := (World.cell?_of_block (heap_alloc_lt _ _ _ hlt)).trans h0
  have q1 : (w.alloc (.cells #[.int .i64 0, .int .i64 0] 35)).cell? ⟨B, (40 + k) * 2 + 1, none⟩ = some (.int .i64 b) := (World.cell?_of_block (a := ⟨B, (40 + k) * 2 + 1, none⟩) (heap_alloc_lt _ _ _ hlt)).trans h1
  clear h0 h1
  go_enter Try.func33, Try.ntmps33
  go_wp2_with fail
  refine bodyPost_ret (results_var1 rfl rfl (GoldAt.load (b := w.heap.size) (x := (a, b)) (heap_alloc_new w (.cells #[.int .i64 a, .int .i64 b] 35)))) rfl ⟨rfl, ?_⟩
  exact (Below.refl _ w).alloc (Nat.le_refl _) _
end Go.Proofs.Ytfjbggodniemeaa
