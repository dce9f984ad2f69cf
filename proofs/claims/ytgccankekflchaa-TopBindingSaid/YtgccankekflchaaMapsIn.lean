/- Maps of the call's own inside a fence. -/
import Derived.Test.YtgccankekflchaaMaps
import Derived.OwnWalkIn
import Derived.Maps.OwnIn
namespace Go.Proofs.Ytgccankekflchaa
open Go Go.Maps Go.WideElems Go.ChangeMaps Go.RowKit

section
variable {F : Fence} {fn : Nat} {P : Program} {k e t : TypeId} {w : World} {b n : Nat} {f : Value → Option Value} {ops : Array Oper} {rest : List Oper} {o : Oper} {a : Act} {Q : Exit → Act → World → Prop}
theorem wpListIn_look (hg : o.guard = none) (m x : Operand) (t : TypeId) (hop : o.op = Op.lookup t m x false) (k e : TypeId) (K : Keyed P k) (ht : P.underlying t = some (.map k e)) (z : Value) (hz : ∀ w, (zeroValue e).run P w = .ok z w)
    (b n : Nat) (f : Value → Option Value) (hm : a.eval m = .map (some b)) (h : MapIs P k w b n f) (key : Value) (l : Lit) (hx : a.eval x = key) (hkey : keyOf P k key = some l)
    (hK : wpListIn F fn P ops Q rest (a.put o.dst ((f key).getD z)) w) : wpListIn F fn P ops Q (o :: rest) a w := by
  refine wpListIn_plain hg fun K' hK' => ?_
  have hrun := h.look K ht (hz w) hkey false
  unfold Oper.wpIn
  refine ⟨?_, ?_⟩
  · simp [Oper.about, hop]
  · rw [Oper.semAt_plain F _ _ (by rw [hop]; intro c hc'; cases hc')]
    simp [execOp, hop, hm, hx, hrun, Result.andThen]
    exact hK' _ _ hK
theorem wpListIn_look_ok (hg : o.guard = none) (m x : Operand) (t : TypeId) (hop : o.op = Op.lookup t m x true) (k e : TypeId) (K : Keyed P k) (ht : P.underlying t = some (.map k e)) (z : Value) (hz : ∀ w, (zeroValue e).run P w = .ok z w)
    (b n : Nat) (f : Value → Option Value) (hm : a.eval m = .map (some b)) (h : MapIs P k w b n f) (key : Value) (l : Lit) (hx : a.eval x = key) (hkey : keyOf P k key = some l)
    (hK : wpListIn F fn P ops Q rest (a.put o.dst (.tuple #[(f key).getD z, .bool (f key).isSome])) w) : wpListIn F fn P ops Q (o :: rest) a w := by
  refine wpListIn_plain hg fun K' hK' => ?_
  have hrun := h.look K ht (hz w) hkey true
  unfold Oper.wpIn
  refine ⟨?_, ?_⟩
  · simp [Oper.about, hop]
  · rw [Oper.semAt_plain F _ _ (by rw [hop]; intro c hc'; cases hc')]
    simp [execOp, hop, hm, hx, hrun, Result.andThen]
    exact hK' _ _ hK
theorem wpListIn_put (hg : o.guard = none) (m x v : Operand) (t : TypeId) (hop : o.op = Op.mapUpdate t m x v) (k e : TypeId) (K : Keyed P k) (ht : P.underlying t = some (.map k e))
    (b n : Nat) (f : Value → Option Value) (hm : a.eval m = .map (some b)) (h : MapIs P k w b n f) (key val : Value) (l : Lit) (hx : a.eval x = key) (hv : a.eval v = val) (hkey : keyOf P k key = some l)
    (hK : ∀ w', MapIs P k w' b (n + 1) (putF f key val) → w.grownBy w' (some b) → w'.heap.size = w.heap.size → wpListIn F fn P ops Q rest (a.put o.dst undef) w') : wpListIn F fn P ops Q (o :: rest) a w := by
  refine wpListIn_plain hg fun K' hK' => ?_
  obtain ⟨w', hrun, h1, h2, h3⟩ := h.store K ht hkey (v := val)
  unfold Oper.wpIn
  refine ⟨?_, ?_⟩
  · simp [Oper.about, hop]
  · rw [Oper.semAt_plain F _ _ (by rw [hop]; intro c hc'; cases hc')]
    simp [execOp, hop, hm, hx, hv, hrun, Result.andThen]
    exact hK' _ _ (hK w' h1 h2 h3)
end
end Go.Proofs.Ytgccankekflchaa

