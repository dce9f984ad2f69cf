

/- Contracts of package judge: appending a situation to a slice of the call's own. -/
import Derived.Test.YtgccankekflchaaJdgF
namespace Go.Proofs.Ytgccankekflchaa
open Go.RowKit

/-- out = append(out, y) -/
theorem append_sit (w : World) {ops : Array Oper} {rest : List Oper} {o : Oper} {a : Act} {Q : Exit → Act → World → Prop} (hgd : o.guard = none) (s x : Operand)
    (ho : o.op = .call { callee := .builtin .append, args := #[s, x], argTypes := #[80, 80] }) (B : Nat) (v : Value) (l : List St) (y : St) (hs : a.eval s = v) (hown : OwnS w B v l)
    (b c : Nat) (hx : a.eval x = .slice (some ⟨b, 0, none⟩) 1 c) (hc : ∀ j u, (sitC y)[j]? = some u → w.cell? ⟨b, j, none⟩ = some u) (hl : l.length + 1 ≤ 100000000000) (hB : B ≤ w.heap.size)
    (h : ∀ v' w', OwnS w' B v' (l ++ [y]) → w.grownBy w' v.ownBlock → wpList Try.prog ops Q rest (a.put o.dst v') w') : wpList Try.prog ops Q (o :: rest) a w := by
  obtain ⟨i0, hi, hz0, hz1, hz2⟩ := info_parts info_sit
  refine wpList_append_own w hgd s x 80 ho B 76 i0 (sit10 0 0 0 0 0 0 0 0 0 0) 10 80 Try.underlying80 hi hz0 hz1 hz2 rfl (by decide) v l.length _ hs hown ⟨b, 0, none⟩ 1 c (sitC y) hx rfl ?_ ?_ (by unfold maxLen; omega) (by omega) hB fun v' w' h1 h2 _ => h v' w' ?_ h2
  · intro j u hu
    have := hc j u hu
    by_cases h0 : j = 0
    · subst h0; simpa [Addr.add] using this
    · simpa [Addr.add, h0] using this
  · intro u hu
    simp only [sitC, List.mem_cons, List.not_mem_nil, or_false] at hu
    rcases hu with rfl | rfl | rfl | rfl | rfl | rfl | rfl | rfl | rfl | rfl <;> rfl
  · unfold OwnS
    simpa using h1
end Go.Proofs.Ytgccankekflchaa

