

/- Package judge's situations as keys of maps. -/
import Derived.Test.YtgccankekflchaaJdgC
namespace Go.Proofs.Ytgccankekflchaa
open Go.RowKit Go.Maps

theorem laidOutJ : laidOutB Try.prog = true := by kernel_rfl
theorem lawSit : Keyed Try.prog 76 := Keyed.of_law (deep_law_laid laidOutJ (m := 4) (by omega) (of_decide_eq_true (by kernel_rfl)) (by kernel_rfl) (by kernel_rfl))
theorem wf_of {n : Int} (h : inI n) : (Lit.int .i64 n).wf = true := by
  unfold inI at h
  exact Bool.and_eq_true_iff.2 ⟨decide_eq_true h.1, decide_eq_true (show n ≤ 9223372036854775807 by omega)⟩
theorem sizeTypes : ∃ n, Try.prog.types.size = n + 3 := ⟨Try.prog.types.size - 3, by kernel_rfl⟩
theorem keySit {t b m s0 s1 s2 s3 s4 s5 f : Int} (ht : inI t) (hb : inI b) (hm : inI m) (h0 : inI s0) (h1 : inI s1) (h2 : inI s2) (h3 : inI s3) (h4 : inI s4) (h5 : inI s5) (hf : inI f) :
    ∃ l, keyOf Try.prog 76 (sit10 t b m s0 s1 s2 s3 s4 s5 f) = some l := by
  have hk : Try.prog.keyType 76 = true := by kernel_rfl
  have c1 : Try.prog.cellsOf 76 = 10 := by kernel_rfl
  have c2 : Try.prog.cellsOf 44 = 6 := by kernel_rfl
  have c3 : Try.prog.cellsOf 3 = 1 := by kernel_rfl
  obtain ⟨n, hn⟩ := sizeTypes
  unfold keyOf
  simp only [Try.underlying76]
  rw [hk, hn]
  simp [Value.formed, Program.keyLits, Try.underlying76, Try.underlying44, Try.underlying3, c1, c2, c3, Value.cells, List.range_succ, wf_of ht, wf_of hb, wf_of hm, wf_of h0, wf_of h1, wf_of h2, wf_of h3, wf_of h4, wf_of h5, wf_of hf]
end Go.Proofs.Ytgccankekflchaa

