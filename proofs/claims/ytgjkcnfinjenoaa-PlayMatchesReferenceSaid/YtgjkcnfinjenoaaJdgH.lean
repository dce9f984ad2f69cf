/- Package judge, plain: a situation reached is a key of the program's maps. -/
import Derived.Test.YtgjkcnfinjenoaaJdgG2
namespace Go.Proofs.Ytgjkcnfinjenoaa
open Go.RowKit

theorem Inv.fit {g : Gm} {s : St} (h : Inv g s) (h6 : g.starts.length ≤ 6) : Fit6 s := ⟨by rw [h.ls]; exact h6, by rw [h.lf, h.ls]⟩
theorem ig_small {g : Gm} {s : St} (h : Inv g s) (hs : ∀ i, i < g.starts.length → ig g.starts i ≤ 1000000) (i : Nat) : inI (ig s.starts i) := by
  unfold inI
  rcases Nat.lt_or_ge i s.starts.length with hi | hi
  · have h1 := h.st i hi
    have h2 := hs i (by rw [← h.ls]; exact hi)
    omega
  · have : ig s.starts i = 0 := by simp [ig, List.getD_eq_getElem?_getD, List.getElem?_eq_none hi]
    omega

