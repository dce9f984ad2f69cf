
/- delete(m, k) for a map of the call's own; the map of ends. -/
import Derived.Test.YtoblmecgnpoogaaMaps
import Derived.Test.YtoblmecgnpoogaaMapsIn
import Derived.Test.YtoblmecgnpoogaaShpL
namespace Go.Proofs.Ytoblmecgnpoogaa
open Go Go.Maps Go.WideElems Go.ChangeMaps Go.RowKit

noncomputable def delF (f : Value → Option Value) (x : Value) : Value → Option Value := open Classical in fun y => if y = x then none else f y
theorem delF_at (f : Value → Option Value) (x : Value) : delF f x x = none := by unfold delF; rw [if_pos rfl]
theorem delF_ne (f : Value → Option Value) {x y : Value} (h : y ≠ x) : delF f x y = f y := by unfold delF; rw [if_neg h]
section
variable {P : Program} {k e t : TypeId} {w : World} {b n : Nat} {f : Value → Option Value}
theorem MapIs.delete (h : MapIs P k w b n f) (K : Keyed P k) (ht : P.underlying t = some (.map k e)) {x : Value} {l : Lit} (hx : keyOf P k x = some l) (ty : TypeId) :
    ∃ w', (Builtin.delete_ #[t, k] ty #[.map (some b), x]).run P w = .ok (.tuple #[]) w' ∧ MapIs P k w' b n (delF f x) ∧ w.grownBy w' (some b) ∧ w'.heap.size = w.heap.size := by
  obtain ⟨es, clock, hb, hs, hk, hd, h1, h2⟩ := h
  have grown : ∀ o, w.grownBy (setBlock w b o) (some b) := fun o => ⟨rfl, rfl, rfl, by simp [setBlock], fun i _ hi => heap_setBlock_other hb _ (fun e => hi (by rw [e]))⟩
  rcases K.find w hx es.toList hk with ⟨r1, r2⟩ | ⟨j, e0, r1, r2, r3⟩
  · refine ⟨setBlock w b (.map es clock), ?_, ⟨es, clock, heap_setBlock_same hb _, hs, hk, hd, fun y hy => ?_, fun y u hy => ?_⟩, grown _, by simp [setBlock]⟩
    · simp [Builtin.delete_, run_underlying ht, MapKept.run_getObj_map hb, K.check w _ hx, r1, MapKept.run_setObj_map _ hb, Result.andThen, setBlock]
    · rw [delF_ne f (r2 y hy)]
      exact h1 y hy
    · by_cases e' : y = x
      · subst e'
        rw [delF_at] at hy
        cases hy
      · rw [delF_ne f e'] at hy
        exact h2 y u hy
  · have hjl : j < es.toList.length := (List.getElem?_eq_some_iff.1 r2).1
    have hjs : j < es.size := by simpa using hjl
    have hsub : (es.eraseIdxIfInBounds j).toList = es.toList.eraseIdx j := by
      unfold Array.eraseIdxIfInBounds
      rw [dif_pos hjs]
      simp
    have ej : es.toList[j] = e0 := (List.getElem?_eq_some_iff.1 r2).2
    have who : ∀ y, y ∈ es.toList.eraseIdx j ↔ y ∈ es.toList ∧ y.key ≠ x := fun y => by
      rw [List.mem_eraseIdx_iff_getElem]
      constructor
      · rintro ⟨i, hi, hne, rfl⟩
        refine ⟨List.getElem_mem hi, fun h3 => ?_⟩
        have e3 : es.toList[j].key = x := by rw [ej]; exact r3
        rcases Nat.lt_or_gt_of_ne hne with hlt | hlt
        · exact List.pairwise_iff_getElem.1 hd i j hi hjl hlt (h3.trans e3.symm)
        · exact List.pairwise_iff_getElem.1 hd j i hjl hi hlt (e3.trans h3.symm)
      · rintro ⟨hy, hne⟩
        obtain ⟨i, hi, rfl⟩ := List.getElem_of_mem hy
        exact ⟨i, hi, fun e' => hne (by subst e'; rw [ej]; exact r3), rfl⟩
    refine ⟨setBlock w b (.map (es.eraseIdxIfInBounds j) clock), ?_, ⟨_, clock, heap_setBlock_same hb _, Nat.le_trans (MapFrom.size_erase es j) hs, fun y hy => ?_, ?_, fun y hy => ?_, fun y u hy => ?_⟩, grown _, by simp [setBlock]⟩
    · simp [Builtin.delete_, run_underlying ht, MapKept.run_getObj_map hb, K.check w _ hx, r1, MapKept.run_setObj_map _ hb, Result.andThen, setBlock]
    · rw [hsub, who] at hy
      exact hk y hy.1
    · rw [hsub]
      exact hd.sublist (List.eraseIdx_sublist _ _)
    · rw [hsub, who] at hy
      rw [delF_ne f hy.2]
      exact h1 y hy.1
    · by_cases e' : y = x
      · subst e'
        rw [delF_at] at hy
        cases hy
      · rw [delF_ne f e'] at hy
        obtain ⟨z, hz, a1, a2⟩ := h2 y u hy
        exact ⟨z, by rw [hsub, who]; exact ⟨hz, by rw [a1]; exact e'⟩, a1, a2⟩
variable {ops : Array Oper} {rest : List Oper} {o : Oper} {a : Act} {Q : Exit → Act → World → Prop}
theorem wpList_delete (hg : o.guard = none) (m x : Operand) (t : TypeId) (hop : o.op = .call { callee := .builtin .delete, args := #[m, x], argTypes := #[t, k] }) (K : Keyed P k) (ht : P.underlying t = some (.map k e))
    (b n : Nat) (f : Value → Option Value) (hm : a.eval m = .map (some b)) (h : MapIs P k w b n f) (key : Value) (l : Lit) (hx : a.eval x = key) (hkey : keyOf P k key = some l)
    (hK : ∀ w', MapIs P k w' b n (delF f key) → w.grownBy w' (some b) → w'.heap.size = w.heap.size → wpList P ops Q rest (a.put o.dst (.tuple #[])) w') : wpList P ops Q (o :: rest) a w := by
  refine wpList_plain hg fun K' hK' => ?_
  obtain ⟨w', hrun, h1, h2, h3⟩ := h.delete K ht hkey o.type
  unfold Oper.wp
  simp only [execOp, hop, resolve, invoke, builtin, Sem.run_bind, Sem.run_pure, Result.andThen_ok, List.map_toArray, List.map_cons, List.map_nil, hm, hx, hrun]
  exact hK' _ _ (hK w' h1 h2 h3)
end
theorem Kint : Go.Maps.Keyed Try.prog 3 := Go.Maps.int_keyed (q := .i64) (by kernel_rfl)
end Go.Proofs.Ytoblmecgnpoogaa

