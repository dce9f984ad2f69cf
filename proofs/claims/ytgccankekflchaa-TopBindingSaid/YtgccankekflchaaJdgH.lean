/- Package judge, plain: a situation reached is a key of the program's maps. -/
import Derived.Test.YtgccankekflchaaJdgG2
namespace Go.Proofs.Ytgccankekflchaa
open Go.RowKit

theorem Inv.fit {g : Gm} {s : St} (h : Inv g s) (h6 : g.starts.length ≤ 6) : Fit6 s := ⟨by rw [h.ls]; exact h6, by rw [h.lf, h.ls]⟩
theorem ig_small {g : Gm} {s : St} (h : Inv g s) (hs : ∀ i, i < g.starts.length → ig g.starts i ≤ 1000000) (i : Nat) : inI (ig s.starts i) := by
  unfold inI
  rcases Nat.lt_or_ge i s.starts.length with hi | hi
  · have h1 := h.st i hi
    have h2 := hs i (by rw [← h.ls]; exact hi)
    omega
  · have : ig s.starts i = 0 := by simp [ig, List.getD_eq_getElem?_getD, List.getElem?_eq_none hi]
    omega
theorem key_st {g : Gm} {s : St} (h : Inv g s) (h6 : g.starts.length ≤ 6) (hd : g.deps.length ≤ 1000000) (hb : g.budget ≤ 1000000) (hs : ∀ i, i < g.starts.length → ig g.starts i ≤ 1000000) :
    ∃ l, keyOf Try.prog 76 (sitV s) = some l := by
  have hF : bitsU s.failed s.failed.length < 64 := Nat.lt_of_lt_of_le (bitsU_lt _ _) (Nat.pow_le_pow_right (by decide) (by rw [h.lf]; exact h6) : 2 ^ s.failed.length ≤ 2 ^ 6)
  have t0 := h.t0
  have tn := h.tn
  have b0 := h.b0
  have b1 := h.b1
  have ls := h.ls
  exact keySit (by unfold inI; omega) (by unfold inI; omega) (by unfold inI; omega) (ig_small h hs 0) (ig_small h hs 1) (ig_small h hs 2) (ig_small h hs 3) (ig_small h hs 4) (ig_small h hs 5) (by unfold inI; omega)
end Go.Proofs.Ytgccankekflchaa

