

/- Package judge's situations as keys of maps. -/
import Derived.Test.YtgjkcnfinjenoaaJdgC
namespace Go.Proofs.Ytgjkcnfinjenoaa
open Go.RowKit Go.Maps

theorem laidOutJ : laidOutB Try.prog = true := by kernel_rfl
theorem wf_of {n : Int} (h : inI n) : (Lit.int .i64 n).wf = true := by
  unfold inI at h
  exact Bool.and_eq_true_iff.2 ⟨decide_eq_true h.1, decide_eq_true (show n ≤ 9223372036854775807 by omega)⟩
theorem sizeTypes : ∃ n, Try.prog.types.size = n + 3 := ⟨Try.prog.types.size - 3, by kernel_rfl⟩

