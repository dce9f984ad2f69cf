/- A map that a call makes, read as a partial function of its keys: look-up, store, delete, length; the elements are whatever values. -/
import Derived.Maps.Own
import Derived.Maps.OwnSet
import Derived.DeepKeys4
import Derived.Below
namespace Go.Proofs.Ytgccankekflchaa
open Go Go.Maps Go.WideElems Go.ChangeMaps Go.RowKit

/-- block b of w is a map of at most n entries that holds f -/
def MapIs (P : Program) (k : TypeId) (w : World) (b n : Nat) (f : Value → Option Value) : Prop :=
  ∃ es clock, w.heap[b]? = some (.map es clock) ∧ es.size ≤ n ∧ (∀ e ∈ es.toList, ∃ l, keyOf P k e.key = some l) ∧ es.toList.Pairwise (fun x y => x.key ≠ y.key) ∧
    (∀ e ∈ es.toList, f e.key = some e.val) ∧ ∀ x v, f x = some v → ∃ e ∈ es.toList, e.key = x ∧ e.val = v
noncomputable def putF (f : Value → Option Value) (x v : Value) : Value → Option Value := open Classical in fun y => if y = x then some v else f y
theorem putF_at (f : Value → Option Value) (x v : Value) : putF f x v x = some v := by unfold putF; rw [if_pos rfl]
theorem putF_ne (f : Value → Option Value) {x y : Value} (v : Value) (h : y ≠ x) : putF f x v y = f y := by unfold putF; rw [if_neg h]

section
variable {P : Program} {k e t : TypeId} {w : World} {b n : Nat} {f : Value → Option Value}

theorem MapIs.lt (h : MapIs P k w b n f) : b < w.heap.size := by
  obtain ⟨es, clock, hb, _⟩ := h
  exact (Array.getElem?_eq_some_iff.1 hb).1
theorem MapIs.mono (h : MapIs P k w b n f) {n' : Nat} (hn : n ≤ n') : MapIs P k w b n' f := by
  obtain ⟨es, clock, hb, hs, r⟩ := h
  exact ⟨es, clock, hb, Nat.le_trans hs hn, r⟩
theorem MapIs.later {w' : World} (h : MapIs P k w b n f) (hb' : Below w.heap.size w w') : MapIs P k w' b n f := by
  have hlt := h.lt
  obtain ⟨es, clock, hb, r⟩ := h
  exact ⟨es, clock, (hb'.block b hlt).trans hb, r⟩
theorem MapIs.block {w' : World} (h : MapIs P k w b n f) (hb' : w'.heap[b]? = w.heap[b]?) : MapIs P k w' b n f := by
  obtain ⟨es, clock, hb, r⟩ := h
  exact ⟨es, clock, hb'.trans hb, r⟩
theorem MapIs.alloc (h : MapIs P k w b n f) (o : Obj) : MapIs P k (w.alloc o) b n f := h.later ((Below.refl _ _).alloc (Nat.le_refl _) o)
theorem MapIs.drew (h : MapIs P k w b n f) : MapIs P k w.drew b n f := h
theorem MapIs.setCell (h : MapIs P k w b n f) {a : Addr} (ha : b ≠ a.block) (u : Value) : MapIs P k (w.setCell a u) b n f := h.block (Below.heap_setCell w a u b ha)
theorem MapIs.made (P : Program) (k : TypeId) (w : World) : MapIs P k (w.alloc (.map #[] 0)) w.heap.size 0 (fun _ => none) := by
  exact ⟨#[], 0, (MapKept.heap_alloc w _).1, by simp, by simp, by simp, by simp, by simp⟩
theorem MapIs.congr {g : Value → Option Value} (h : MapIs P k w b n f) (e : ∀ x, f x = g x) : MapIs P k w b n g := by
  obtain rfl : f = g := funext e
  exact h
/-- only keys of the type are there -/
theorem MapIs.keys (h : MapIs P k w b n f) {x v : Value} (hx : f x = some v) : ∃ l, keyOf P k x = some l := by
  obtain ⟨es, clock, _, _, hk, _, _, h2⟩ := h
  obtain ⟨e, he, rfl, _⟩ := h2 x v hx
  exact hk e he

theorem MapIs.look (h : MapIs P k w b n f) (K : Keyed P k) (ht : P.underlying t = some (.map k e)) {z : Value} (hz : (zeroValue e).run P w = .ok z w) {x : Value} {l : Lit} (hx : keyOf P k x = some l) (c : Bool) :
    (Instr.lookup t (.map (some b)) x c).run P w = .ok (if c then .tuple #[(f x).getD z, .bool (f x).isSome] else (f x).getD z) w := by
  obtain ⟨es, clock, hb, _, hk, hd, h1, h2⟩ := h
  rcases K.find w hx es.toList hk with ⟨r1, r2⟩ | ⟨j, e0, r1, r2, r3⟩
  · have hf : f x = none := by
      cases hf : f x with
      | none => rfl
      | some v =>
        obtain ⟨e', he', hk', _⟩ := h2 x v hf
        exact absurd hk' (r2 e' he')
    rw [hf]
    simp [Instr.lookup, run_underlying ht, MapKept.run_getObj_map hb, K.check w _ hx, r1, hz, Result.andThen]
  · have hf : f x = some e0.val := by rw [← r3]; exact h1 e0 (List.mem_of_getElem? r2)
    rw [hf]
    simp [Instr.lookup, run_underlying ht, MapKept.run_getObj_map hb, K.check w _ hx, r1, Result.andThen]

theorem MapIs.store (h : MapIs P k w b n f) (K : Keyed P k) (ht : P.underlying t = some (.map k e)) {x v : Value} {l : Lit} (hx : keyOf P k x = some l) :
    ∃ w', (Instr.mapUpdate t (.map (some b)) x v).run P w = .ok () w' ∧ MapIs P k w' b (n + 1) (putF f x v) ∧ w.grownBy w' (some b) ∧ w'.heap.size = w.heap.size := by
  obtain ⟨es, clock, hb, hs, hk, hd, h1, h2⟩ := h
  have grown : ∀ o, w.grownBy (setBlock w b o) (some b) := fun o => ⟨rfl, rfl, rfl, by simp [setBlock], fun i _ hi => heap_setBlock_other hb _ (fun e => hi (by rw [e]))⟩
  rcases K.find w hx es.toList hk with ⟨r1, r2⟩ | ⟨j, e0, r1, r2, r3⟩
  · refine ⟨setBlock w b (.map (es.push ⟨x, v, clock⟩) (clock + 1)), ?_, ⟨es.push ⟨x, v, clock⟩, clock + 1, heap_setBlock_same hb _, by simp; omega, ?_, ?_, ?_, ?_⟩, grown _, by simp [setBlock]⟩
    · simp [Instr.mapUpdate, run_underlying ht, MapKept.run_getObj_map hb, K.check w false hx, r1, MapKept.run_setObj_map _ hb, Result.andThen, setBlock]
    · intro y hy
      simp only [Array.toList_push, List.mem_append, List.mem_singleton] at hy
      rcases hy with hy | rfl
      · exact hk y hy
      · exact ⟨l, hx⟩
    · rw [Array.toList_push, List.pairwise_append]
      exact ⟨hd, by simp, fun y hy y' hy' => by simp at hy'; subst hy'; exact r2 y hy⟩
    · intro y hy
      simp only [Array.toList_push, List.mem_append, List.mem_singleton] at hy
      rcases hy with hy | rfl
      · rw [putF_ne f v (r2 y hy)]; exact h1 y hy
      · exact putF_at f x v
    · intro y u hy
      by_cases e' : y = x
      · subst e'
        rw [putF_at] at hy
        cases hy
        exact ⟨⟨y, v, clock⟩, by simp, rfl, rfl⟩
      · rw [putF_ne f v e'] at hy
        obtain ⟨z, hz, a1, a2⟩ := h2 y u hy
        exact ⟨z, by simp [hz], a1, a2⟩
  · have hj : es[j]? = some e0 := by simpa using r2
    have hjl : j < es.toList.length := (List.getElem?_eq_some_iff.1 r2).1
    have hlist : (es.modify j (fun e' => { e' with key := x, val := v })).toList = es.toList.set j { e0 with key := x, val := v } := by rw [Array.toList_modify, modify_eq_set _ _ _ _ r2]
    have who : ∀ y ∈ es.toList.set j { e0 with key := x, val := v }, y = { e0 with key := x, val := v } ∨ (y ∈ es.toList ∧ y.key ≠ x) := by
      intro y hy
      obtain ⟨i, hi, ex⟩ := List.getElem_of_mem hy
      rw [List.getElem_set] at ex
      split at ex
      · exact Or.inl ex.symm
      · rename_i hne
        have hi' : i < es.toList.length := by simpa using hi
        refine Or.inr ⟨ex ▸ List.getElem_mem hi', ?_⟩
        have ej : es.toList[j].key = x := by rw [(List.getElem?_eq_some_iff.1 r2).2]; exact r3
        intro h3
        have h4 : es.toList[i].key = x := by rw [ex]; exact h3
        rcases Nat.lt_or_gt_of_ne hne with hlt | hlt
        · exact List.pairwise_iff_getElem.1 hd j i hjl hi' hlt (ej.trans h4.symm)
        · exact List.pairwise_iff_getElem.1 hd i j hi' hjl hlt (h4.trans ej.symm)
    refine ⟨setBlock w b (.map (es.modify j (fun e' => { e' with key := x, val := v })) clock), ?_, ⟨_, clock, heap_setBlock_same hb _, by simp; omega, ?_, ?_, ?_, ?_⟩, grown _, by simp [setBlock]⟩
    · simp [Instr.mapUpdate, run_underlying ht, MapKept.run_getObj_map hb, K.check w false hx, r1, hj, r3, K.stays w hx, MapKept.run_setObj_map _ hb, Result.andThen, setBlock]
    · intro y hy
      rw [hlist] at hy
      rcases who y hy with rfl | ⟨hy', _⟩
      · exact ⟨l, hx⟩
      · exact hk y hy'
    · rw [hlist, List.pairwise_iff_getElem]
      intro i i' hi hi' hlt
      simp only [List.length_set] at hi hi'
      have ej : es.toList[j].key = x := by rw [(List.getElem?_eq_some_iff.1 r2).2]; exact r3
      rw [List.getElem_set, List.getElem_set]
      split
      · rename_i h3
        rw [if_neg (by omega)]
        intro h4
        exact List.pairwise_iff_getElem.1 hd j i' hjl hi' (by omega) (ej.trans h4)
      · split
        · rename_i h3 h4
          intro h5
          exact List.pairwise_iff_getElem.1 hd i j hi hjl (by omega) (h5.trans ej.symm)
        · exact List.pairwise_iff_getElem.1 hd _ _ hi hi' hlt
    · intro y hy
      rw [hlist] at hy
      rcases who y hy with rfl | ⟨hy', hne⟩
      · exact putF_at f x v
      · rw [putF_ne f v hne]; exact h1 y hy'
    · intro y u hy
      rw [hlist]
      by_cases e' : y = x
      · subst e'
        rw [putF_at] at hy
        cases hy
        exact ⟨{ e0 with key := y, val := v }, List.mem_iff_getElem.2 ⟨j, by simpa using hjl, by simp⟩, rfl, rfl⟩
      · rw [putF_ne f v e'] at hy
        obtain ⟨z, hz, a1, a2⟩ := h2 y u hy
        obtain ⟨i, hi, ez⟩ := List.getElem_of_mem hz
        have hij : j ≠ i := by
          intro h3
          subst h3
          have ej : es.toList[j] = e0 := (List.getElem?_eq_some_iff.1 r2).2
          rw [ej] at ez
          exact e' (by rw [← a1, ← ez, r3])
        exact ⟨z, List.mem_iff_getElem.2 ⟨i, by simpa using hi, by rw [List.getElem_set_ne hij]; exact ez⟩, a1, a2⟩

/-! ### at the operation, for the walk -/
variable {ops : Array Oper} {rest : List Oper} {o : Oper} {a : Act} {Q : Exit → Act → World → Prop}
theorem wpList_look (hg : o.guard = none) (m x : Operand) (t : TypeId) (hop : o.op = Op.lookup t m x false) (k e : TypeId) (K : Keyed P k) (ht : P.underlying t = some (.map k e)) (z : Value) (hz : ∀ w, (zeroValue e).run P w = .ok z w)
    (b n : Nat) (f : Value → Option Value) (hm : a.eval m = .map (some b)) (h : MapIs P k w b n f) (key : Value) (l : Lit) (hx : a.eval x = key) (hkey : keyOf P k key = some l)
    (hK : wpList P ops Q rest (a.put o.dst ((f key).getD z)) w) : wpList P ops Q (o :: rest) a w := by
  refine wpList_plain hg fun K' hK' => ?_
  have hrun := h.look K ht (hz w) hkey false
  unfold Oper.wp
  simp [execOp, hop, hm, hx, hrun, Result.andThen]
  exact hK' _ _ hK
theorem wpList_look_ok (hg : o.guard = none) (m x : Operand) (t : TypeId) (hop : o.op = Op.lookup t m x true) (k e : TypeId) (K : Keyed P k) (ht : P.underlying t = some (.map k e)) (z : Value) (hz : ∀ w, (zeroValue e).run P w = .ok z w)
    (b n : Nat) (f : Value → Option Value) (hm : a.eval m = .map (some b)) (h : MapIs P k w b n f) (key : Value) (l : Lit) (hx : a.eval x = key) (hkey : keyOf P k key = some l)
    (hK : wpList P ops Q rest (a.put o.dst (.tuple #[(f key).getD z, .bool (f key).isSome])) w) : wpList P ops Q (o :: rest) a w := by
  refine wpList_plain hg fun K' hK' => ?_
  have hrun := h.look K ht (hz w) hkey true
  unfold Oper.wp
  simp [execOp, hop, hm, hx, hrun, Result.andThen]
  exact hK' _ _ hK
theorem wpList_put (hg : o.guard = none) (m x v : Operand) (t : TypeId) (hop : o.op = Op.mapUpdate t m x v) (k e : TypeId) (K : Keyed P k) (ht : P.underlying t = some (.map k e))
    (b n : Nat) (f : Value → Option Value) (hm : a.eval m = .map (some b)) (h : MapIs P k w b n f) (key val : Value) (l : Lit) (hx : a.eval x = key) (hv : a.eval v = val) (hkey : keyOf P k key = some l)
    (hK : ∀ w', MapIs P k w' b (n + 1) (putF f key val) → w.grownBy w' (some b) → w'.heap.size = w.heap.size → wpList P ops Q rest (a.put o.dst undef) w') : wpList P ops Q (o :: rest) a w := by
  refine wpList_plain hg fun K' hK' => ?_
  obtain ⟨w', hrun, h1, h2, h3⟩ := h.store K ht hkey (v := val)
  unfold Oper.wp
  simp [execOp, hop, hm, hx, hv, hrun, Result.andThen]
  exact hK' _ _ (hK w' h1 h2 h3)
end
end Go.Proofs.Ytgccankekflchaa

