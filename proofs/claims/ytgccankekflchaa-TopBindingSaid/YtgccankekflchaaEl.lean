/- Lists of elements of some cells each: where they lie, those of a call's own, appending. -/
import Derived.Test.YtgccankekflchaaChg
import Derived.Test.YtgccankekflchaaProg
import Derived.Deep.MidRow
namespace Go.Proofs.Ytgccankekflchaa
open Go.RowKit

theorem infoParts {p : Option TypeInfo} {z : Value} {s b : Nat} (h : p.map (fun i => (i.zero, i.size, i.bytes)) = some (some z, s, b)) : ∃ i, p = some i ∧ i.zero = some z ∧ i.size = s ∧ i.bytes = b := by
  cases p with
  | none => simp at h
  | some i =>
    simp at h
    exact ⟨i, rfl, h.1, h.2.1, h.2.2⟩
/-- how an element lies in memory -/
structure El (α : Type) where
  T : TypeId
  TS : TypeId
  S : Nat
  by' : Nat
  z : Value
  cf : α → List Value
  hT : Try.prog.underlying TS = some (.slice T)
  info : (Try.prog.info? T).map (fun i => (i.zero, i.size, i.bytes)) = some (some z, S, by')
  hz : z.cells.size = S
  pos : 0 < S
  small : by' ≤ 1000
  len : ∀ x, (cf x).length = S
  one : ∀ x, ∀ u ∈ cf x, u.oneCell' = true
section
variable {α : Type} (E : El α)
def El.Own (w : World) (B : Nat) (v : Value) (l : List α) : Prop := w.ownsRow B E.T E.S v l.length (l.flatMap E.cf)
def El.At (w : World) (a : Option Addr) (l : List α) : Prop := ∀ j u, (l.flatMap E.cf)[j]? = some u → ∃ b off, a = some ⟨b, off, none⟩ ∧ w.cell? ⟨b, off + j, none⟩ = some u
theorem El.flen (l : List α) : (l.flatMap E.cf).length = l.length * E.S := by
  induction l with
  | nil => simp
  | cons x l ih => rw [List.flatMap_cons, List.length_append, ih, E.len, List.length_cons, Nat.succ_mul, Nat.add_comm]
theorem El.fat (l : List α) : ∀ k (hk : k < l.length) c, c < E.S → (l.flatMap E.cf)[k * E.S + c]? = (E.cf l[k])[c]? := by
  induction l with
  | nil => intro k hk; simp at hk
  | cons s l ih =>
    intro k hk c hc
    rw [List.flatMap_cons]
    cases k with
    | zero => rw [List.getElem?_append_left (by rw [E.len]; omega)]; simp
    | succ k =>
      rw [List.getElem?_append_right (by rw [E.len, Nat.succ_mul]; omega), E.len, show (k + 1) * E.S + c - E.S = k * E.S + c by rw [Nat.succ_mul]; omega]
      exact ih k (by simpa using hk) c hc
theorem El.fone (l : List α) : ∀ u ∈ l.flatMap E.cf, u.oneCell' = true := fun u hu => by
  obtain ⟨x, _, hu⟩ := List.mem_flatMap.1 hu
  exact E.one x u hu
variable {E} {w w1 : World} {a : Option Addr} {B : Nat} {v : Value} {l : List α}
theorem El.At.nil : E.At w a [] := fun j u h => by simp at h
theorem El.At.later (h : E.At w a l) (hb : Below w.heap.size w w1) : E.At w1 a l := fun j u hu => by
  obtain ⟨b, off, e, hc⟩ := h j u hu
  exact ⟨b, off, e, cell_later hb hc⟩
theorem El.At.head (h : E.At w a l) (hl : 0 < l.length) : ∃ b off, a = some ⟨b, off, none⟩ ∧ ∀ j u, (l.flatMap E.cf)[j]? = some u → w.cell? ⟨b, off + j, none⟩ = some u := by
  have h0 : 0 < (l.flatMap E.cf).length := by rw [E.flen]; exact Nat.mul_pos hl E.pos
  obtain ⟨b, off, e, _⟩ := h 0 _ (List.getElem?_eq_getElem h0)
  refine ⟨b, off, e, fun j u hu => ?_⟩
  obtain ⟨b', off', e', hc⟩ := h j u hu
  rw [e] at e'
  cases e'
  exact hc
theorem El.At.isNil (h : E.At w none l) : l = [] := by
  cases l with
  | nil => rfl
  | cons x l =>
    obtain ⟨_, _, e, _⟩ := h.head (by simp)
    cases e
/-- the element k lies from its place on -/
theorem El.At.range {b off : Nat} (h : E.At w (some ⟨b, off, none⟩) l) {k : Nat} (hk : k < l.length) : w.rangeAt b (off + k * E.S) (E.cf l[k]) := fun c u hu => by
  have hc : c < E.S := by have := (List.getElem?_eq_some_iff.1 hu).1; rwa [E.len] at this
  obtain ⟨b', off', e, hc'⟩ := h (k * E.S + c) u (by rw [E.fat l k hk c hc]; exact hu)
  cases e
  rw [Nat.add_assoc]
  exact hc'
theorem El.At.sub {b off : Nat} (h : E.At w (some ⟨b, off, none⟩) l) (k n : Nat) : E.At w (some ⟨b, off + k * E.S, none⟩) ((l.drop k).take n) := fun j u hu => by
  have hj : j < ((l.drop k).take n).length * E.S := by have := (List.getElem?_eq_some_iff.1 hu).1; rwa [E.flen] at this
  have hpos := E.pos
  have hq : j / E.S < ((l.drop k).take n).length := (Nat.div_lt_iff_lt_mul hpos).2 hj
  have hm : j % E.S < E.S := Nat.mod_lt _ hpos
  have e1 := E.fat ((l.drop k).take n) (j / E.S) hq (j % E.S) hm
  have hdm : j / E.S * E.S + j % E.S = j := by rw [Nat.mul_comm]; exact Nat.div_add_mod j E.S
  rw [hdm, hu] at e1
  have hql : k + j / E.S < l.length := by
    rw [List.length_take, List.length_drop] at hq
    generalize j / E.S = q at hq ⊢
    omega
  have e2 := E.fat l (k + j / E.S) hql (j % E.S) hm
  have e3 : ((l.drop k).take n)[j / E.S] = l[k + j / E.S] := by
    rw [List.getElem_take, List.getElem_drop]
  rw [e3, ← e2] at e1
  obtain ⟨b', off', e, hc⟩ := h _ u e1.symm
  cases e
  refine ⟨b, off + k * E.S, rfl, ?_⟩
  have e4 : off + k * E.S + j = off + ((k + j / E.S) * E.S + j % E.S) := by
    have e5 := Nat.add_mul k (j / E.S) E.S
    rw [e5]
    generalize k * E.S = p at *
    generalize j / E.S * E.S = q at *
    generalize j % E.S = r at *
    omega
  rw [e4]
  exact hc
theorem El.Own.later (h : E.Own w B v l) (hb : Below w.heap.size w w1) : E.Own w1 B v l :=
  World.ownsRow.kept h (show w.grownBy w1 none from ⟨hb.os, hb.tape, hb.output, hb.size, fun k hk _ => hb.block k hk⟩) (by cases v.ownBlock <;> simp)
theorem El.Own.nil (E : El α) (w : World) (B : Nat) : E.Own w B (.slice none 0 0) [] := World.ownsRow_nil _ _ _ _
theorem El.Own.at (h : E.Own w B v l) : ∃ a c, v = .slice a l.length c ∧ l.length ≤ c ∧ c ≤ maxLen ∧ E.At w a l ∧ ((a = none ∧ c = 0 ∧ l = []) ∨ ∃ g, a = some ⟨g, 0, none⟩ ∧ B ≤ g ∧ g < w.heap.size) := by
  have h' := h
  obtain ⟨h1, ⟨e, h2⟩ | ⟨g, cap, cur, rfl, hb, hg, hn, hm, _⟩⟩ := h
  · obtain rfl : l = [] := List.eq_nil_of_length_eq_zero h2
    exact ⟨none, 0, e, by simp, by simp, El.At.nil, .inl ⟨rfl, rfl, rfl⟩⟩
  · refine ⟨some ⟨g, 0, none⟩, cap, rfl, hn, hm, fun j u hu => ⟨g, 0, rfl, ?_⟩, .inr ⟨g, rfl, hb, (Array.getElem?_eq_some_iff.1 hg).1⟩⟩
    have hj : j < l.length * E.S := by have := (List.getElem?_eq_some_iff.1 hu).1; rwa [E.flen] at this
    rw [Nat.zero_add, World.ownsRow.cellAt h' j hj]
    exact hu
/-- a literal of elements -/
theorem El.Own.lit (w : World) (B : Nat) (hB : B ≤ w.heap.size) (l : List α) (hl : l.length ≤ 1000000) (cs : Array Value) (hc : cs = (l.flatMap E.cf).toArray) : E.Own (w.alloc (.cells cs E.T)) B (.slice (some ⟨w.heap.size, 0, none⟩) l.length l.length) l := by
  subst hc
  have := World.ownsRow_lit (base := B) (e := E.T) (size := E.S) w (l.flatMap E.cf).toArray l.length hB (by unfold maxLen; omega) (by simpa using E.flen l)
  unfold El.Own
  simpa using this
theorem El.app (w : World) (B : Nat) (v : Value) (l m : List α) (hown : E.Own w B v l) (ad : Option Addr) (c : Nat) (hc : E.At w ad m) (hl : l.length + m.length ≤ 100000000) (hB : B ≤ w.heap.size) (ty : TypeId) :
    ∃ v' w', (Builtin.append_ #[E.TS, E.TS] ty #[v, .slice ad m.length c]).run Try.prog w = .ok v' w' ∧ E.Own w' B v' (l ++ m) ∧ w.grownBy w' v.ownBlock ∧ ∀ b, v'.ownBlock = some b → v.ownBlock = some b ∨ w.heap.size ≤ b := by
  obtain ⟨i0, hi, hz0, hz1, hz2⟩ := infoParts E.info
  cases ad with
  | none =>
    obtain rfl := hc.isNil
    refine ⟨v, w, ?_, by simpa using hown, World.grownBy.refl _ _, fun b hb => .inl hb⟩
    obtain ⟨h1, ⟨e, h2⟩ | ⟨g, cap, cur, rfl, hb, hg, hn, hm, _⟩⟩ := hown
    · subst e
      simp [Builtin.append_, run_underlying E.hT, sizeOf, typeInfo, hi, Builtin.lenOf, Builtin.firstCells]
    · simp [Builtin.append_, run_underlying E.hT, sizeOf, typeInfo, hi, Builtin.lenOf, Builtin.firstCells, hn, storeCells]
  | some ad =>
    have hsm := E.small
    obtain ⟨v', w', hr, ho, hg, hn⟩ := run_append_at (P := Try.prog) w B E.TS ty E.T i0 E.z E.S E.by' E.hT hi hz0 hz1 hz2 E.hz E.pos v l.length _ hown ad m.length c (m.flatMap E.cf) (E.flen m) (fun j u hu => by
      obtain ⟨b, off, e, hcell⟩ := hc j u hu
      obtain rfl := Option.some.inj e
      by_cases h0 : j = 0
      · subst h0; simpa [Addr.add] using hcell
      · simpa [Addr.add, h0] using hcell) (E.fone m) (by unfold maxLen; omega) (Nat.le_trans (Nat.mul_le_mul_left _ hsm) (by omega)) hB
    refine ⟨v', w', hr, ?_, hg, hn⟩
    unfold El.Own
    simpa using ho
end
theorem wp_app_eq {w w' : World} {o : Oper} {a : Act} {K : Act → World → Prop} {Q : Exit → Act → World → Prop} {v' : Value} (s x : Operand) (t : TypeId)
    (ho : o.op = .call { callee := .builtin .append, args := #[s, x], argTypes := #[t, t] }) (v y : Value) (hs : a.eval s = v) (hx : a.eval x = y)
    (hr : (Builtin.append_ #[t, t] o.type #[v, y]).run Try.prog w = .ok v' w') (h : K (a.put o.dst v') w') : o.wp Try.prog a w K Q := by
  unfold Oper.wp execOp
  simp only [ho, resolve, invoke, builtin, Sem.run_bind, Sem.run_pure, Result.andThen_ok, List.map_toArray, List.map_cons, List.map_nil, hs, hx, hr]
  exact h
theorem wpList_app_eq {w w' : World} {ops : Array Oper} {rest : List Oper} {o : Oper} {a : Act} {Q : Exit → Act → World → Prop} {v' : Value} (hgd : o.guard = none) (s x : Operand) (t : TypeId)
    (ho : o.op = .call { callee := .builtin .append, args := #[s, x], argTypes := #[t, t] }) (v y : Value) (hs : a.eval s = v) (hx : a.eval x = y)
    (hr : (Builtin.append_ #[t, t] o.type #[v, y]).run Try.prog w = .ok v' w') (h : wpList Try.prog ops Q rest (a.put o.dst v') w') : wpList Try.prog ops Q (o :: rest) a w :=
  wpList_plain hgd fun _ hK => wp_app_eq s x t ho v y hs hx hr (hK _ _ h)
theorem grown_setCells : ∀ (vs : List Value) (n k : Nat) (w : World), w.grownBy (w.setCells n k vs) (some n)
  | [], _, _, w => World.grownBy.refl w _
  | v :: vs, n, k, w => by
    have h := grown_setCells vs n (k + 1) (w.setCell ⟨n, k, none⟩ v)
    refine ⟨h.os, h.tape, h.output, by rw [setCells_heap]; exact Nat.le_refl _, fun i hi hne => ?_⟩
    refine (h.block i (by rw [World.size_setCell]; exact hi) hne).trans ?_
    exact heap_setCell_other w ⟨n, k, none⟩ i v (fun e => hne (by simp [e]))
theorem BoxAt.grown' {w w' : World} {n : Nat} {cs : List Value} {row : Option Nat} (h : BoxAt w n cs) (hg : w.grownBy w' row) (hn : row ≠ some n) : BoxAt w' n cs := fun o v ho => by
  have hb := hg.block n (World.block_lt_of_cell? _ _ (h o v ho).1) (fun e => hn e.symm)
  exact ⟨(World.cell?_of_block (w := w) (a := ⟨n, o, none⟩) hb).trans (h o v ho).1, (World.frozen?_of_block (w := w) (a := ⟨n, o, none⟩) hb).trans (h o v ho).2⟩
end Go.Proofs.Ytgccankekflchaa

