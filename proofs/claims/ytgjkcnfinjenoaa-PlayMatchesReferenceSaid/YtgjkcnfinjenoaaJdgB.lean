

/- Contracts of package judge: valid. -/
import Derived.Test.YtgjkcnfinjenoaaJdgA
namespace Go.Proofs.Ytgjkcnfinjenoaa
open Go.RowKit

theorem no_odd {g : Gm} (h1 : g.starts.length ≤ 6) (h2 : g.deps.length ≤ 12) (h3 : 0 ≤ g.budget) (h4 : g.budget ≤ 3) (h5 : ∀ i, i < g.deps.length → okDep g.starts.length (dg g i)) : (!(g.starts.any odd12)) = vgB g := by
  cases h : g.starts.any odd12
  · symm
    refine vgB_true ⟨h1, h2, h3, h4, fun i hi => ?_, h5⟩
    have := List.any_eq_false.1 h _ (ig_mem hi)
    unfold odd12 at this
    simp at this
    omega
  · symm
    refine vgB_false fun hv => ?_
    obtain ⟨x, hx, ho⟩ := List.any_eq_true.1 h
    obtain ⟨j, hj, rfl⟩ := List.getElem_of_mem hx
    have := hv.2.2.2.2.1 j hj
    rw [ig_lt hj] at this
    unfold odd12 at ho
    simp at ho
    omega
/-- the one before, or -1 -/
def prv (l : List Int) (i : Nat) : Int := if i = 0 then -1 else ig l (i - 1)

