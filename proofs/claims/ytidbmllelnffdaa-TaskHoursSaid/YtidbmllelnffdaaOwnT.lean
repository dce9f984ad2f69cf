/- Rows of tasks of the call's own. -/
import Derived.Test.YtidbmllelnffdaaOwn2
import Derived.Test.YtidbmllelnffdaaTaskX
namespace Go.Proofs.Ytidbmllelnffdaa
open Go.RowKit

/-- a task, and where what it waits for lies -/
structure TR where
  t : Tk
  aa : Option Addr
  ac : Nat
def tcs (r : TR) : List Value := [.int .i64 r.t.hours, .int .i64 r.t.skill, .bool r.t.bay, .slice r.aa r.t.after.length r.ac]
def rcs : List TR → List Value
  | [] => []
  | r :: L => tcs r ++ rcs L
def rg (L : List TR) (i : Nat) : TR := L.getD i ⟨⟨0, 0, false, []⟩, none, 0⟩
theorem rg_lt {L : List TR} {i : Nat} (h : i < L.length) : rg L i = L[i] := by simp [rg, List.getD, h]
theorem rcs_len : ∀ (L : List TR), (rcs L).length = L.length * 4
  | [] => rfl
  | r :: L => by simp [rcs, tcs, rcs_len L]; omega
theorem rcs_at : ∀ (L : List TR) (i j : Nat), i < L.length → j < 4 → (rcs L)[i * 4 + j]? = (tcs (rg L i))[j]?
  | [], i, j, hi, _ => absurd hi (by simp)
  | r :: L, 0, j, _, hj => by
    unfold rcs
    rw [Nat.zero_mul, Nat.zero_add, List.getElem?_append_left (by simpa [tcs] using hj)]
    rfl
  | r :: L, i + 1, j, hi, hj => by
    unfold rcs
    have e : (tcs r).length = 4 := rfl
    rw [List.getElem?_append_right (by rw [e]; omega), e, show (i + 1) * 4 + j - 4 = i * 4 + j by omega, rcs_at L i j (by simpa using hi) hj]
    rfl
/-- the same task, waiting for others -/
def upd (r : TR) (l : List Int) (aa : Option Addr) (ac : Nat) : TR := ⟨⟨r.t.hours, r.t.skill, r.t.bay, l⟩, aa, ac⟩
theorem rcs_set : ∀ (L : List TR) (i : Nat) (l : List Int) (aa : Option Addr) (ac : Nat), i < L.length → (rcs L).set (i * 4 + 3) (.slice aa l.length ac) = rcs (L.set i (upd (rg L i) l aa ac))
  | [], i, _, _, _, hi => absurd hi (by simp)
  | r :: L, 0, l, aa, ac, _ => rfl
  | r :: L, i + 1, l, aa, ac, hi => by
    have e : (tcs r).length = 4 := rfl
    have ih := rcs_set L i l aa ac (by simpa using hi)
    have hr : rg (r :: L) (i + 1) = rg L i := rfl
    unfold rcs
    rw [List.set_append_right _ _ (by rw [e]; omega), e, show (i + 1) * 4 + 3 - 4 = i * 4 + 3 by omega, ih, hr]
    rfl
/-- numbers that do not lie in block g -/
def FarI (w : World) (g : Nat) (a : Option Addr) (l : List Int) : Prop := ∀ j, j < l.length → ∃ b off, a = some ⟨b, off, none⟩ ∧ b ≠ g ∧ w.cell? ⟨b, off + j, none⟩ = some (.int .i64 (ig l j))
theorem FarI.ints {w : World} {g : Nat} {a : Option Addr} {l : List Int} (h : FarI w g a l) : Ints w a l := fun j hj => by
  obtain ⟨b, off, ha, _, hc⟩ := h j hj
  exact ⟨b, off, ha, hc⟩
theorem FarI.nil (w : World) (g : Nat) (a : Option Addr) : FarI w g a [] := fun j hj => absurd hj (by simp)
theorem FarI.of {w w' : World} {g : Nat} {a : Option Addr} {l : List Int} (h : Ints w a l) (hg : w.heap.size ≤ g) (hb : Below w.heap.size w w') : FarI w' g a l := fun j hj => by
  obtain ⟨b, off, ha, hc⟩ := h j hj
  have := World.block_lt_of_cell? _ _ hc
  exact ⟨b, off, ha, by simp at this; omega, cell_later hb hc⟩
/-- tasks that lie in the call's own block g -/
def OwnT (w : World) (B g cap : Nat) (L : List TR) : Prop := w.ownsRow B 41 4 (.slice (some ⟨g, 0, none⟩) L.length cap) L.length (rcs L) ∧ ∀ i, i < L.length → FarI w g (rg L i).aa (rg L i).t.after
section
variable {w w1 : World} {B g cap i : Nat} {L : List TR}
theorem OwnT.later (h : OwnT w B g cap L) (hb : Below w.heap.size w w1) : OwnT w1 B g cap L :=
  ⟨World.ownsRow.kept h.1 (grown_none hb) (by simp [Value.ownBlock]), fun i hi j hj => by
    obtain ⟨b, off, ha, hn, hc⟩ := h.2 i hi j hj
    exact ⟨b, off, ha, hn, cell_later hb hc⟩⟩
theorem OwnT.lt (h : OwnT w B g cap L) : B ≤ g ∧ g < w.heap.size := World.ownsRow.lt h.1 g rfl
theorem OwnT.free (h : OwnT w B g cap L) (j : Nat) : w.frozen? ⟨g, j, none⟩ = false := World.ownsRow.frozenAt h.1 j
theorem OwnT.cell (h : OwnT w B g cap L) (hi : i < L.length) {j : Nat} (hj : j < 4) : w.cell? ⟨g, i * 4 + j, none⟩ = (tcs (rg L i))[j]? := by
  rw [World.ownsRow.cellAt h.1 (i * 4 + j) (by omega)]
  exact rcs_at L i j hi hj
theorem OwnT.tasks (h : OwnT w B g cap L) : Tasks w (some ⟨g, 0, none⟩) (L.map (·.t)) := fun i hi => by
  have hi' : i < L.length := by simpa using hi
  have e : tg (L.map (·.t)) i = (rg L i).t := by simp [tg, rg, List.getD, hi']
  have c0 := h.cell hi' (j := 0) (by omega)
  have c1 := h.cell hi' (j := 1) (by omega)
  have c2 := h.cell hi' (j := 2) (by omega)
  have c3 := h.cell hi' (j := 3) (by omega)
  rw [e]
  exact ⟨g, 0, (rg L i).aa, (rg L i).ac, rfl, by rw [Nat.zero_add]; exact c0, by rw [Nat.zero_add]; exact c1, by rw [Nat.zero_add]; exact c2, by rw [Nat.zero_add]; exact c3, (h.2 i hi').ints⟩
theorem OwnT.set (h : OwnT w B g cap L) (hi : i < L.length) (l : List Int) (aa : Option Addr) (ac : Nat) (hf : FarI w g aa l) : OwnT (w.setCell ⟨g, i * 4 + 3, none⟩ (.slice aa l.length ac)) B g cap (L.set i (upd (rg L i) l aa ac)) := by
  have far : ∀ {a : Option Addr} {k : List Int}, FarI w g a k → FarI (w.setCell ⟨g, i * 4 + 3, none⟩ (.slice aa l.length ac)) g a k := fun h j hj => by
    obtain ⟨b, off, ha, hn, hc⟩ := h j hj
    exact ⟨b, off, ha, hn, by rw [World.cell?_setCell_far _ _ _ _ (by change g ≠ b; omega)]; exact hc⟩
  refine ⟨?_, fun j hj => ?_⟩
  · have k := (World.ownsRow.stored h.1 (i * 4 + 3) (.slice aa l.length ac)).1
    rw [rcs_set L i l aa ac hi] at k
    rw [List.length_set]
    exact k
  · rw [List.length_set] at hj
    by_cases e : i = j
    · subst e
      have : rg (L.set i (upd (rg L i) l aa ac)) i = upd (rg L i) l aa ac := by simp [rg, List.getD, hi]
      rw [this]
      exact far hf
    · have : rg (L.set i (upd (rg L i) l aa ac)) j = rg L j := by simp [rg, List.getD, e]
      rw [this]
      exact far (h.2 j hj)
end
theorem info_task : (Try.prog.info? 41).map (fun i => (i.zero, i.size, i.bytes)) = some (some (.agg #[.int .i64 0, .int .i64 0, .bool false, .slice none 0 0]), 4, 48) := by kernel_rfl
theorem Tasks.rows {w : World} {a : Option Addr} {l : List Tk} (h : Tasks w a l) : ∃ L : List TR, L.map (·.t) = l ∧ (∀ j u, (rcs L)[j]? = some u → ∃ b off, a = some ⟨b, off, none⟩ ∧ w.cell? ⟨b, off + j, none⟩ = some u) ∧ ∀ i, i < L.length → Ints w (rg L i).aa (rg L i).t.after := by
  classical
  have hx : ∀ i, ∃ p : Option Addr × Nat, i < l.length → ∃ b off, a = some ⟨b, off, none⟩ ∧ w.cell? ⟨b, off + i * 4, none⟩ = some (.int .i64 (tg l i).hours) ∧ w.cell? ⟨b, off + i * 4 + 1, none⟩ = some (.int .i64 (tg l i).skill) ∧
    w.cell? ⟨b, off + i * 4 + 2, none⟩ = some (.bool (tg l i).bay) ∧ w.cell? ⟨b, off + i * 4 + 3, none⟩ = some (.slice p.1 (tg l i).after.length p.2) ∧ Ints w p.1 (tg l i).after := fun i => by
    by_cases hi : i < l.length
    · obtain ⟨b, off, aa, ac, h1, h2⟩ := h i hi
      exact ⟨(aa, ac), fun _ => ⟨b, off, h1, h2⟩⟩
    · exact ⟨(none, 0), fun h => absurd h hi⟩
  let p := fun i => Classical.choose (hx i)
  have hp := fun i => Classical.choose_spec (hx i)
  have hlen : ((List.range l.length).map fun i => (⟨tg l i, (p i).1, (p i).2⟩ : TR)).length = l.length := by simp
  have hrg : ∀ i, i < l.length → rg ((List.range l.length).map fun i => (⟨tg l i, (p i).1, (p i).2⟩ : TR)) i = ⟨tg l i, (p i).1, (p i).2⟩ := fun i hi => by simp [rg, List.getD, hi]
  refine ⟨(List.range l.length).map fun i => ⟨tg l i, (p i).1, (p i).2⟩, ?_, fun j u hj => ?_, fun i hi => ?_⟩
  · refine List.ext_getElem (by simp) fun i h1 h2 => ?_
    simp [tg, List.getD, h2]
  · have hjl : j < l.length * 4 := by
      have := (List.getElem?_eq_some_iff.1 hj).1
      rw [rcs_len, hlen] at this
      exact this
    have hq : j / 4 < l.length := by omega
    have hr : j % 4 < 4 := by omega
    have e : j = j / 4 * 4 + j % 4 := by omega
    rw [e, rcs_at _ _ _ (by rw [hlen]; exact hq) hr, hrg _ hq] at hj
    obtain ⟨b, off, ha, c0, c1, c2, c3, _⟩ := hp (j / 4) hq
    refine ⟨b, off, ha, ?_⟩
    rw [e]
    generalize j / 4 = q at *
    generalize j % 4 = s at *
    rw [← hj, ← Nat.add_assoc]
    match s, hr with
    | 0, _ => exact c0
    | 1, _ => exact c1
    | 2, _ => exact c2
    | 3, _ => exact c3
  · have hi' : i < l.length := by simpa using hi
    rw [hrg i hi']
    obtain ⟨_, _, _, _, _, _, _, hI⟩ := hp i hi'
    exact hI
/-- append([]api.Task{}, l...), l not empty -/
theorem append_tasks (w : World) {ops : Array Oper} {rest : List Oper} {o : Oper} {a : Act} {Q : Exit → Act → World → Prop} (hgd : o.guard = none) (s x : Operand)
    (ho : o.op = .call { callee := .builtin .append, args := #[s, x], argTypes := #[22, 22] }) (w0 : World) (hs : a.eval s = .slice (some ⟨w0.heap.size, 0, none⟩) 0 0) (hw : w = w0.alloc (Obj.cells #[] 41))
    (l : List Tk) (ad : Option Addr) (c : Nat) (hx : a.eval x = .slice ad l.length c) (hT : Tasks w0 ad l) (hl : 0 < l.length) (hl2 : l.length ≤ 1000)
    (h : ∀ g cap w' L, L.map (·.t) = l → OwnT w' w0.heap.size g cap L → Below w0.heap.size w0 w' → wpList Try.prog ops Q rest (a.put o.dst (.slice (some ⟨g, 0, none⟩) l.length cap)) w') : wpList Try.prog ops Q (o :: rest) a w := by
  obtain ⟨L, hL, hcs, hI⟩ := hT.rows
  have hLl : L.length = l.length := by rw [← hL]; simp
  obtain ⟨b0, off0, _, _, rfl, _⟩ := hT 0 hl
  obtain ⟨i0, hi, hz0, hz1, hz2⟩ := info_parts info_task
  have hb0 : Below w0.heap.size w0 w := by rw [hw]; exact Below.alloc (Below.refl _ _) (Nat.le_refl _) _
  have hown : w.ownsRow w0.heap.size 41 4 (.slice (some ⟨w0.heap.size, 0, none⟩) 0 0) 0 [] := by
    refine ⟨rfl, .inr ⟨w0.heap.size, 0, #[], rfl, Nat.le_refl _, ?_, Nat.le_refl _, by unfold maxLen; omega, rfl, rfl⟩⟩
    rw [hw]
    change (w0.heap.push _)[w0.heap.size]? = _
    simp
  refine wpList_append_own w hgd s x 22 ho w0.heap.size 41 i0 _ 4 48 Try.underlying22 hi hz0 hz1 hz2 rfl (by decide) _ 0 [] hs hown ⟨b0, off0, none⟩ l.length c (rcs L) hx (by rw [rcs_len, hLl]) ?_ ?_ (by unfold maxLen; omega) (by omega) ?_ fun v' w' h1 h2 h3 => ?_
  · intro j u hj
    obtain ⟨b, off, ha, hc⟩ := hcs j u hj
    cases ha
    have hc' := cell_later hb0 hc
    unfold Addr.add
    by_cases e : j = 0
    · subst e; rw [if_pos rfl]; exact hc'
    · rw [if_neg e]; exact hc'
  · intro u hu
    obtain ⟨j, hj, rfl⟩ := List.getElem_of_mem hu
    have hjl : j < L.length * 4 := by rw [rcs_len] at hj; exact hj
    have e : j = j / 4 * 4 + j % 4 := by omega
    have h4 : j % 4 < 4 := by omega
    have := rcs_at L (j / 4) (j % 4) (by omega) h4
    rw [← e, List.getElem?_eq_getElem hj] at this
    generalize j % 4 = s at *
    match s, h4 with
    | 0, _ => simp [tcs] at this; rw [this]; rfl
    | 1, _ => simp [tcs] at this; rw [this]; rfl
    | 2, _ => simp [tcs] at this; rw [this]; rfl
    | 3, _ => simp [tcs] at this; rw [this]; rfl
  · rw [hw]
    change w0.heap.size ≤ (w0.heap.push _).size
    simp
  · rw [Nat.zero_add, List.nil_append] at h1
    have hbw : Below w0.heap.size w0 w' := by
      have hsz : w0.heap.size ≤ w.heap.size := hb0.size
      refine ⟨h2.os.trans hb0.os, h2.tape.trans hb0.tape, h2.output.trans hb0.output, Nat.le_trans hsz h2.size, fun k hk => ?_⟩
      rw [h2.block k (by omega) (by simp [Value.ownBlock]; omega)]
      exact hb0.block k hk
    rcases h1.2 with ⟨rfl, hn⟩ | ⟨g, cap, cur, rfl, hg, hh⟩
    · exact absurd hn (by omega)
    · refine h g cap w' L hL ⟨?_, fun i hi => ?_⟩ hbw
      · rw [hLl]; exact h1
      · exact FarI.of (hI i hi) hg hbw
end Go.Proofs.Ytidbmllelnffdaa
