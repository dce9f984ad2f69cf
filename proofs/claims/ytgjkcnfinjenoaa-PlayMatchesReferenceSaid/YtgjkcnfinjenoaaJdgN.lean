

/- Contracts of package judge: Accept. -/
import Derived.Test.YtgjkcnfinjenoaaJdgM
import Derived.Test.YtgjkcnfinjenoaaRangeB
namespace Go.Proofs.Ytgjkcnfinjenoaa
open Go.RowKit Go.Shelf

attribute [local go_sem] Oper.semAt_some

theorem keeps_below {B : Nat} {W W' : World} (h : Below W.heap.size W W') : KeepsFrom B W W' := ⟨h.size, fun k _ _ h0 _ => (h.block k (Array.getElem?_eq_some_iff.1 h0).1).trans h0⟩
structure GBox (w : World) (G : Nat) (g : Gm) (sa : Option Addr) (sc : Nat) (da : Option Addr) (dc : Nat) : Prop where
  c0 : w.cell? ⟨G, 0, none⟩ = some (.slice sa g.starts.length sc)
  c1 : w.cell? ⟨G, 1, none⟩ = some (.slice da g.deps.length dc)
  c2 : w.cell? ⟨G, 2, none⟩ = some (.int .i64 g.budget)
theorem GBox.later {w w1 : World} {G : Nat} {g : Gm} {sa da : Option Addr} {sc dc : Nat} (h : GBox w G g sa sc da dc) (hb : Below w.heap.size w w1) : GBox w1 G g sa sc da dc := ⟨cell_later hb h.c0, cell_later hb h.c1, cell_later hb h.c2⟩
theorem GBox.kept {w w1 : World} {row : Option Nat} {G : Nat} {g : Gm} {sa da : Option Addr} {sc dc : Nat} (h : GBox w G g sa sc da dc) (hg : w.grownBy w1 row) (hr : ∀ r, row = some r → ∃ o : Obj, w.heap[r]? = some o ∧ o.isCells = false) : GBox w1 G g sa sc da dc := ⟨cell_kept h.c0 hg hr, cell_kept h.c1 hg hr, cell_kept h.c2 hg hr⟩
theorem bitsU_none (n k : Nat) : bitsU (List.replicate n false) k = 0 := by
  induction k with
  | zero => rfl
  | succ k ih =>
    unfold bitsU
    have : bg (List.replicate n false) k = false := by
      unfold bg
      rw [List.getD_eq_getElem?_getD, List.getElem?_replicate]
      split <;> rfl
    rw [ih, this]
    rfl
theorem sitV_begin (g : Gm) : sitV (beginS g) = sit10 0 g.budget g.starts.length (ig g.starts 0) (ig g.starts 1) (ig g.starts 2) (ig g.starts 3) (ig g.starts 4) (ig g.starts 5) 0 := by
  unfold sitV beginS
  simp only [bitsU_none]
  rfl
theorem VG.small {g : Gm} (hv : VG g) : ∀ i, i < g.starts.length → ig g.starts i ≤ 1000000 := fun i hi => by have := (hv.2.2.2.2.1 i hi).2; omega
theorem ret_marks {P : Program} {fn : Func} {R : Ending → World → Prop} {ts : Array Value} {D : Nat} {w : World} {v : Value} (hd : w.heap[D]? = some (.deferred (some []))) (hr : (results fn ts).run P (w.putObj D (.deferred none)) = .ok v (w.putObj D (.deferred none))) (h : R (.returned v) (w.putObj D (.deferred none))) :
    bodyPostM Fence.wide 3 P fn R .ret { tmps := ts, defers := [{ target := .collected D, args := #[] }] } w := ⟨by simp, .inl ⟨_, _, rfl, run_takeDeferred hd, v, hr, h⟩⟩
theorem ret_below {w w' : World} {D : Nat} {v : Value} {v' : Value} (hv : v = v') (hb : Below w.heap.size w w') (hD : w.heap.size ≤ D) (hd : w'.heap[D]? = some (.deferred (some []))) : RetB v' w (.returned v) (w'.putObj D (.deferred none)) :=
  ⟨by rw [hv], hb.trans (belowK_b (w := w) (Nat.le_refl _) _ D _ (.deferred none) hD hd rfl rfl)⟩
theorem GBox.chg {S : Nat → Prop} {w w1 : World} {G : Nat} {g : Gm} {sa da : Option Addr} {sc dc : Nat} (h : GBox w G g sa sc da dc) (hc : Chg S w w1) (hs : ¬ S G) : GBox w1 G g sa sc da dc := ⟨hc.cell h.c0 hs, hc.cell h.c1 hs, hc.cell h.c2 hs⟩
/-- a situation's block -/
abbrev BoxSit (w : World) (B : Nat) (s : St) : Prop := SitBox w B s.turn s.budget s.starts.length (ig s.starts 0) (ig s.starts 1) (ig s.starts 2) (ig s.starts 3) (ig s.starts 4) (ig s.starts 5) (bitsU s.failed s.failed.length)
theorem BoxSit.on {w : World} {B : Nat} {s : St} (h : BoxSit w B s) : BoxSit (w.setCell ⟨B, 0, none⟩ (.int .i64 (s.turn + 1))) B (afterS s (-1)) := by
  rw [afterS_none]
  exact ⟨World.cell?_setCell_same _ _ _ h.c0, cell_ne h.c1 (.inr (by decide)), cell_ne h.c2 (.inr (by decide)), cell_ne h.c3 (.inr (by decide)), cell_ne h.c4 (.inr (by decide)), cell_ne h.c5 (.inr (by decide)), cell_ne h.c6 (.inr (by decide)), cell_ne h.c7 (.inr (by decide)), cell_ne h.c8 (.inr (by decide)), cell_ne h.c9 (.inr (by decide)), fun j hj => by rw [World.frozen?_setCell]; exact h.fr j hj⟩
theorem BoxSit.took {w : World} {B : Nat} {s : St} {q : Nat} (h : BoxSit w B (afterS s (-1))) (hq : q < s.starts.length) (h6 : s.starts.length ≤ 6) : BoxSit (w.setCell ⟨B, 3 + q, none⟩ (.int .i64 (ig s.starts q - 1))) B (afterS s q) := by
  rw [afterS_none] at h
  rw [afterS_some]
  have e : ∀ j, ig (s.starts.set q (ig s.starts q - 1)) j = if q = j then ig s.starts q - 1 else ig s.starts j := fun j => by
    rw [ig_set]
    by_cases hj : q = j
    · rw [if_pos ⟨hj, hq⟩, if_pos hj]
    · rw [if_neg (fun h => hj h.1), if_neg hj]
  have key : ∀ j, w.cell? ⟨B, 3 + j, none⟩ = some (.int .i64 (ig s.starts j)) → (w.setCell ⟨B, 3 + q, none⟩ (.int .i64 (ig s.starts q - 1))).cell? ⟨B, 3 + j, none⟩ = some (.int .i64 (ig (s.starts.set q (ig s.starts q - 1)) j)) := fun j hj => by
    rw [e]
    by_cases hqj : q = j
    · subst hqj
      rw [if_pos rfl]
      exact World.cell?_setCell_same _ _ _ hj
    · rw [if_neg hqj]
      exact cell_ne hj (.inr (by omega))
  refine ⟨cell_ne h.c0 (.inr (by omega)), cell_ne h.c1 (.inr (by omega)), ?_, key 0 h.c3, key 1 h.c4, key 2 h.c5, key 3 h.c6, key 4 h.c7, key 5 h.c8, cell_ne h.c9 (.inr (by omega)), fun j hj => by rw [World.frozen?_setCell]; exact h.fr j hj⟩
  show _ = some (Value.int .i64 ((s.starts.set q (ig s.starts q - 1)).length : Nat))
  rw [List.length_set]
  exact cell_ne h.c2 (.inr (by omega))
theorem snoc_or {α : Type} (l : List α) : l = [] ∨ ∃ l' x, l = l' ++ [x] := by
  induction l using snoc_ind with
  | h0 => exact .inl rfl
  | hs l x _ => exact .inr ⟨l, x, rfl⟩
/-- what the loop keeps -/
structure Lk (w wr : World) (g : Gm) (sa : Option Addr) (sc : Nat) (da : Option Addr) (dc D : Nat) : Prop where
  b : Below w.heap.size w wr
  g : GBox wr w.heap.size g sa sc da dc
  d : wr.heap[D]? = some (.deferred (some []))
theorem Lk.later {w wr wx : World} {g : Gm} {sa : Option Addr} {sc : Nat} {da : Option Addr} {dc D : Nat} (h : Lk w wr g sa sc da dc D) (hb : Below wr.heap.size wr wx) : Lk w wx g sa sc da dc D :=
  ⟨h.b.trans (hb.mono h.b.size), h.g.later hb, (hb.block D (Array.getElem?_eq_some_iff.1 h.d).1).trans h.d⟩
theorem Lk.setCell {w wr : World} {g : Gm} {sa : Option Addr} {sc : Nat} {da : Option Addr} {dc D T : Nat} (h : Lk w wr g sa sc da dc D) (hT : w.heap.size < T) (hD : D ≠ T) (v : Value) : Lk w (wr.setCell ⟨T, 0, none⟩ v) g sa sc da dc D :=
  ⟨h.b.setCell (p := ⟨T, 0, none⟩) (Nat.le_of_lt hT) v, ⟨cell_ne h.g.c0 (.inl (by omega)), cell_ne h.g.c1 (.inl (by omega)), cell_ne h.g.c2 (.inl (by omega))⟩, (Below.heap_setCell _ _ _ _ hD).trans h.d⟩
theorem Lk.setCell' {w wr : World} {g : Gm} {sa : Option Addr} {sc : Nat} {da : Option Addr} {dc D T k : Nat} (h : Lk w wr g sa sc da dc D) (hT : w.heap.size < T) (hD : D ≠ T) (v : Value) : Lk w (wr.setCell ⟨T, k, none⟩ v) g sa sc da dc D :=
  ⟨h.b.setCell (p := ⟨T, k, none⟩) (Nat.le_of_lt hT) v, ⟨cell_ne h.g.c0 (.inl (by omega)), cell_ne h.g.c1 (.inl (by omega)), cell_ne h.g.c2 (.inl (by omega))⟩, (Below.heap_setCell _ _ _ _ hD).trans h.d⟩
theorem Lk.chg {S : Nat → Prop} {w wr wx : World} {g : Gm} {sa : Option Addr} {sc : Nat} {da : Option Addr} {dc D : Nat} (h : Lk w wr g sa sc da dc D) (hc : Chg S wr wx) (hs : ∀ k, S k → w.heap.size < k) (hD : ¬ S D) : Lk w wx g sa sc da dc D :=
  ⟨h.b.trans (hc.below h.b.size fun k hk => Nat.le_of_lt (hs k hk)), h.g.chg hc (fun hk => by have := hs _ hk; omega), (hc.block D (Array.getElem?_eq_some_iff.1 h.d).1 hD).trans h.d⟩
theorem BoxSit.start {w : World} {B : Nat} {s : St} {q : Nat} (h : BoxSit w B s) (hq : q < 6) : w.cell? ⟨B, 3 + q, none⟩ = some (.int .i64 (ig s.starts q)) := by
  have : q = 0 ∨ q = 1 ∨ q = 2 ∨ q = 3 ∨ q = 4 ∨ q = 5 := by omega
  rcases this with rfl | rfl | rfl | rfl | rfl | rfl
  · exact h.c3
  · exact h.c4
  · exact h.c5
  · exact h.c6
  · exact h.c7
  · exact h.c8
theorem okDep_dom {m : Nat} {l : List Int} {c : Int} (h : okDep m l) (hc : c ∈ l) : 0 ≤ c ∧ c < m := by
  obtain ⟨j, hj, rfl⟩ := List.getElem_of_mem hc
  rw [← ig_lt hj]
  refine ⟨?_, (h j hj).2⟩
  have : ∀ j, j < l.length → 0 ≤ ig l j := fun j => by
    induction j with
    | zero => intro h0; have := (h 0 h0).1; rw [if_pos rfl] at this; omega
    | succ j ih => intro h0; have h1 := (h (j + 1) h0).1; rw [if_neg (by omega), Nat.add_sub_cancel] at h1; have := ih (by omega); omega
  exact this j hj
theorem wpList_named {P : Program} {ops : Array Oper} {rest : List Oper} {o : Oper} {a : Act} {Q : Exit → Act → World → Prop} {w : World} (hg : o.guard = none) (R : World → Prop) (w1 : World) (hrun : (execOp a.eval o).run P w = .ok .skip w1) (hR : R w1) (hK : ∀ w', R w' → wpList P ops Q rest (a.put o.dst undef) w') :
    wpList P ops Q (o :: rest) a w := wpList_plain hg fun K hK' => by unfold Oper.wp; rw [hrun]; exact hK' _ _ (hK w1 hR)
abbrev AdP := Option Addr × Nat × Option Addr × Nat
theorem PlanAt.names {w : World} {a : Option Addr} {plan : List Pos} {pv : Nat → Value} (h : PlanAt w a plan pv) : ∃ A : Fin plan.length → AdP, ∀ x : Fin plan.length, pv x = psV plan[x] (A x).1 (A x).2.1 (A x).2.2.1 (A x).2.2.2 ∧ PsAt w plan[x] (A x).1 (A x).2.2.1 :=
  Classical.axiomOfChoice (α := Fin plan.length) (β := fun _ => AdP) (r := fun x A => pv x = psV plan[x] A.1 A.2.1 A.2.2.1 A.2.2.2 ∧ PsAt w plan[x] A.1 A.2.2.1) fun x => by
    obtain ⟨b, off, sa, sc, fa, fc, _, h1, _, h2⟩ := h x x.2
    exact ⟨(sa, sc, fa, fc), h1, h2⟩
abbrev psC (p : Pos) (A : AdP) : List Value := [.int .i64 p.turn, .slice A.1 p.starts.length A.2.1, .slice A.2.2.1 p.failed.length A.2.2.2, .int .i64 p.budget, .int .i64 p.choice, .int .i64 p.bound]
theorem BoxAt.kept {w w1 : World} {n : Nat} {cs : List Value} {row : Option Nat} (h : BoxAt w n cs) (hg : w.grownBy w1 row) (hr : ∀ r, row = some r → ∃ o : Obj, w.heap[r]? = some o ∧ o.isCells = false) : BoxAt w1 n cs := fun o v ho => ⟨cell_kept (h o v ho).1 hg hr, (frozen_kept (h o v ho).1 hg hr).trans (h o v ho).2⟩

