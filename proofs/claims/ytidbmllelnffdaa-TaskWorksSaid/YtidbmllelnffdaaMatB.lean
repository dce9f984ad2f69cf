/- Rows of booleans of the call's own, under a row of slices: a square matrix in memory. -/
import Derived.Test.YtidbmllelnffdaaMat
import Derived.Test.YtidbmllelnffdaaOwn2
namespace Go.Proofs.Ytidbmllelnffdaa
open Go.RowKit

theorem info_row : (Try.prog.info? 23).map (fun i => (i.zero, i.size, i.bytes)) = some (some (.slice none 0 0), 1, 24) := by kernel_rfl
/-- these slices lie at the head of block g, of the call's own -/
def OwnS (w : World) (B g : Nat) (c : List Value) : Prop := w.ownsRow B 23 1 (.slice (some ⟨g, 0, none⟩) c.length c.length) c.length c
theorem OwnS.later {w w1 : World} {B g : Nat} {c : List Value} (h : OwnS w B g c) (hb : Below w.heap.size w w1) : OwnS w1 B g c :=
  World.ownsRow.kept h (grown_none hb) (by simp [Value.ownBlock])
theorem OwnS.cell {w : World} {B g : Nat} {c : List Value} (h : OwnS w B g c) {j : Nat} (hj : j < c.length) : w.cell? ⟨g, j, none⟩ = c[j]? := World.ownsRow.cellAt h j (by omega)
theorem OwnS.free {w : World} {B g : Nat} {c : List Value} (h : OwnS w B g c) (j : Nat) : w.frozen? ⟨g, j, none⟩ = false := World.ownsRow.frozenAt h j
theorem OwnS.lt {w : World} {B g : Nat} {c : List Value} (h : OwnS w B g c) : B ≤ g ∧ g < w.heap.size := World.ownsRow.lt h g rfl
theorem OwnS.set {w : World} {B g : Nat} {c : List Value} (h : OwnS w B g c) (j : Nat) (x : Value) : OwnS (w.setCell ⟨g, j, none⟩ x) B g (c.set j x) := by
  have k := (World.ownsRow.stored h j x).1
  unfold OwnS
  rw [List.length_set]
  exact k
theorem OwnS.far {w : World} {B g : Nat} {c : List Value} (h : OwnS w B g c) {b j : Nat} (hb : b ≠ g) (x : Value) : OwnS (w.setCell ⟨b, j, none⟩ x) B g c :=
  ownsRow_setCell_other h (by simp [Value.ownBlock]; omega) x
theorem OwnB.far {w : World} {B g : Nat} {l : List Bool} (h : OwnB w B g l) {b j : Nat} (hb : b ≠ g) (x : Value) : OwnB (w.setCell ⟨b, j, none⟩ x) B g l :=
  ownsRow_setCell_other h (by simp [Value.ownBlock]; omega) x
theorem OwnS.mono {w : World} {B B' g : Nat} {l : List Value} (h : OwnS w B g l) (hB : B' ≤ B) : OwnS w B' g l := by
  obtain ⟨h1, h2⟩ := h
  refine ⟨h1, ?_⟩
  rcases h2 with h2 | ⟨g1, cap, cur, hv, hg, rest⟩
  · exact .inl h2
  · exact .inr ⟨g1, cap, cur, hv, by omega, rest⟩

/-- the first q rows of n booleans each, in the blocks R, under the row of slices in block g -/
def Mat (w : World) (B g n : Nat) (R : Nat → Nat) (M : Nat → List Bool) (q : Nat) : Prop :=
  ∃ c : List Value, c.length = n ∧ OwnS w B g c ∧ ∀ i, i < q → i < n → c[i]? = some (.slice (some ⟨R i, 0, none⟩) n n) ∧ OwnB w B (R i) (M i) ∧ (M i).length = n ∧ g < R i ∧ ∀ j, j < i → R j < R i
section
variable {w w1 : World} {B g n q i : Nat} {R : Nat → Nat} {M : Nat → List Bool}
theorem Mat.later (h : Mat w B g n R M q) (hb : Below w.heap.size w w1) : Mat w1 B g n R M q := by
  obtain ⟨c, h1, h2, h3⟩ := h
  exact ⟨c, h1, h2.later hb, fun i hi hn => by
    obtain ⟨k1, k2, k3⟩ := h3 i hi hn
    exact ⟨k1, k2.later hb, k3⟩⟩
theorem Mat.lt (h : Mat w B g n R M q) : B ≤ g ∧ g < w.heap.size := by
  obtain ⟨c, h1, h2, h3⟩ := h
  exact h2.lt
theorem Mat.cell (h : Mat w B g n R M q) (hi : i < q) (hn : i < n) : w.cell? ⟨g, i, none⟩ = some (.slice (some ⟨R i, 0, none⟩) n n) := by
  obtain ⟨c, h1, h2, h3⟩ := h
  rw [h2.cell (by omega)]
  exact (h3 i hi hn).1
theorem Mat.free (h : Mat w B g n R M q) (j : Nat) : w.frozen? ⟨g, j, none⟩ = false := by
  obtain ⟨c, h1, h2, h3⟩ := h
  exact h2.free j
theorem Mat.row (h : Mat w B g n R M q) (hi : i < q) (hn : i < n) : OwnB w B (R i) (M i) ∧ (M i).length = n := by
  obtain ⟨c, h1, h2, h3⟩ := h
  exact ⟨(h3 i hi hn).2.1, (h3 i hi hn).2.2.1⟩
theorem Mat.at (h : Mat w B g n R M q) (hi : i < q) (hn : i < n) {k : Nat} (hk : k < n) : w.cell? ⟨R i, k, none⟩ = some (.bool (mg M i k)) := by
  obtain ⟨h1, h2⟩ := h.row hi hn
  exact h1.cell (by omega)
theorem Mat.atFree (h : Mat w B g n R M q) (hi : i < q) (hn : i < n) (k : Nat) : w.frozen? ⟨R i, k, none⟩ = false := (h.row hi hn).1.free k
theorem Mat.rowLt (h : Mat w B g n R M q) (hi : i < q) (hn : i < n) : B ≤ R i ∧ R i < w.heap.size := (h.row hi hn).1.lt
theorem Mat.set (h : Mat w B g n R M q) (hi : i < q) (hn : i < n) (k : Nat) (x : Bool) : Mat (w.setCell ⟨R i, k, none⟩ (.bool x)) B g n R (mset M i k x) q := by
  obtain ⟨c, h1, h2, h3⟩ := h
  obtain ⟨i1, i2, i3, i4, i5⟩ := h3 i hi hn
  refine ⟨c, h1, h2.far (by omega) _, fun j hj hjn => ?_⟩
  obtain ⟨k1, k2, k3, k4, k5⟩ := h3 j hj hjn
  unfold mset
  by_cases e : j = i
  · subst e
    rw [if_pos rfl]
    exact ⟨k1, k2.set k x, by rw [List.length_set]; exact k3, k4, k5⟩
  · rw [if_neg e]
    have hne : R i ≠ R j := by
      by_cases hlt : j < i
      · have := i5 j hlt; omega
      · have := k5 i (by omega); omega
    exact ⟨k1, k2.far hne _, k3, k4, k5⟩
theorem Mat.push (h : Mat w B g n R M q) (hq : q < n) {r : List Bool} (hr : r.length = n) (hb : Below w.heap.size w w1) (ho : OwnB w1 w.heap.size w.heap.size r) :
    Mat (w1.setCell ⟨g, q, none⟩ (.slice (some ⟨w.heap.size, 0, none⟩) n n)) B g n (fun i => if i = q then w.heap.size else R i) (fun i => if i = q then r else M i) (q + 1) := by
  have hB := h.lt
  obtain ⟨c, h1, h2, h3⟩ := h
  refine ⟨c.set q (.slice (some ⟨w.heap.size, 0, none⟩) n n), by simpa using h1, (h2.later hb).set q _, fun i hi hn => ?_⟩
  by_cases e : i = q
  · subst e
    simp only [if_pos]
    refine ⟨by simp [h1, hn], (ho.mono (by omega)).far (by omega) _, hr, hB.2, fun j hj => ?_⟩
    rw [if_neg (by omega)]
    exact ((h3 j hj (by omega)).2.1).lt.2
  · obtain ⟨k1, k2, k3, k4, k5⟩ := h3 i (by omega) hn
    simp only [if_neg e]
    refine ⟨by rw [List.getElem?_set_ne (by omega)]; exact k1, (k2.later hb).far (by omega) _, k3, k4, fun j hj => ?_⟩
    rw [if_neg (by omega)]
    exact k5 j hj
theorem Mat.start {c : List Value} (h : OwnS w B g c) (hc : c.length = n) : Mat w B g n R M 0 := ⟨c, hc, h, fun i hi => absurd hi (by omega)⟩
end
/-- make([][]bool, n) -/
theorem make_rows (w : World) {ops : Array Oper} {rest : List Oper} {o : Oper} {a : Act} {Q : Exit → Act → World → Prop} (hg : o.guard = none) (l c : Operand) (hop : o.op = Op.makeSlice 38 l c)
    (kl kc : IntKind) (n : Nat) (hl : a.eval l = .int kl n) (hc : a.eval c = .int kc n) (hn : n ≤ 1000000000)
    (hK : ∀ w', OwnS w' w.heap.size w.heap.size (List.replicate n (.slice none 0 0)) → Below w.heap.size w w' → w.heap.size < w'.heap.size → wpList Try.prog ops Q rest (a.put o.dst (.slice (some ⟨w.heap.size, 0, none⟩) n n)) w') : wpList Try.prog ops Q (o :: rest) a w := by
  obtain ⟨i0, hi, hz0, hz1, hz2⟩ := info_parts info_row
  refine wpList_make_full w hg l c 38 hop w.heap.size 23 i0 (.slice none 0 0) 1 Try.underlying38 hi hz0 hz1 kl kc n n n hl hc rfl rfl (by rw [hz2]; omega) (by unfold maxLen; omega) (Nat.le_refl _) fun w' h1 h2 => hK w' ?_ ⟨h2.os, h2.tape, h2.output, h2.size, fun k hk => h2.block k hk (by simp)⟩ (World.ownsRow.lt h1 _ rfl).2
  unfold OwnS
  rw [List.length_replicate]
  have e : (madeCells (Value.slice none 0 0).cells (n * 1)).toList = List.replicate n (Value.slice none 0 0) := by simp [madeCells, Value.cells, Nat.mod_one, List.eq_replicate_iff]
  rwa [e] at h1
end Go.Proofs.Ytidbmllelnffdaa
