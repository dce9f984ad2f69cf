


/- The reference's All. -/
import Derived.Test.YtgoomcnaemfjcaaHldK
namespace Go.Proofs.Ytgoomcnaemfjcaa
open Go.RowKit

/-- the region 'h.Back = append(append([]int{}, h.Back...), n)', h in the block T -/
structure RbJ (w0 : World) (T : Nat) (n : Int) (v0 : Value) (l : List Int) (b0 b3 b9 b10 : Value) (l0 l3 l9 l10 l12 : Bool) (w : World) : Prop where
  chg : Chg (fun k => k = T) w0 w
  cell : w.cell? ⟨T, 3, none⟩ = some (if l12 then b10 else v0)
  fro : w.frozen? ⟨T, 3, none⟩ = false
  rest : ∀ j, j ≠ 3 → w.cell? ⟨T, j, none⟩ = w0.cell? ⟨T, j, none⟩ ∧ w.frozen? ⟨T, j, none⟩ = w0.frozen? ⟨T, j, none⟩
  ty : ∀ U, IsTy w0 T U → IsTy w T U
  e0 : l0 = true → l3 = false → EI.Own w w0.heap.size b0 []
  e3 : l3 = true → l10 = false → EI.Own w w0.heap.size b3 l
  e10 : l10 = true → EI.Own w w0.heap.size b10 (l ++ [n])
  bx : l9 = true → l10 = false → ∃ k, b9 = .slice (some ⟨k, 0, none⟩) 1 1 ∧ w0.heap.size ≤ k ∧ k < w.heap.size ∧ BoxAt w k [.int .i64 n] ∧ (l0 = true → l3 = false → b0.ownBlock ≠ some k) ∧ (l3 = true → b3.ownBlock ≠ some k)
section
variable {w0 w w' : World} {T : Nat} {n : Int} {v0 : Value} {l : List Int} {b0 b3 b9 b10 : Value} {l0 l3 l9 l10 l12 : Bool}
theorem RbJ.tl (h : RbJ w0 T n v0 l b0 b3 b9 b10 l0 l3 l9 l10 l12 w) : T < w.heap.size := World.block_lt_of_cell? _ _ h.cell
theorem RbJ.start (hc : w0.cell? ⟨T, 3, none⟩ = some v0) (hf : w0.frozen? ⟨T, 3, none⟩ = false) : RbJ w0 T n v0 l b0 b3 b9 b10 false false false false false w0.drew :=
  ⟨(Chg.refl _ _).drew, hc, hf, fun _ _ => ⟨rfl, rfl⟩, fun _ h => h, fun e => (by cases e), fun e => (by cases e), fun e => (by cases e), fun e => (by cases e)⟩
theorem RbJ.rest' (h : RbJ w0 T n v0 l b0 b3 b9 b10 l0 l3 l9 l10 l12 w) (e : w'.heap[T]? = w.heap[T]?) : (w'.cell? ⟨T, 3, none⟩ = some (if l12 then b10 else v0)) ∧ w'.frozen? ⟨T, 3, none⟩ = false ∧ (∀ j, j ≠ 3 → w'.cell? ⟨T, j, none⟩ = w0.cell? ⟨T, j, none⟩ ∧ w'.frozen? ⟨T, j, none⟩ = w0.frozen? ⟨T, j, none⟩) ∧ ∀ U, IsTy w0 T U → IsTy w' T U :=
  ⟨(World.cell?_of_block (w := w) (a := ⟨T, 3, none⟩) e).trans h.cell, (World.frozen?_of_block (w := w) (a := ⟨T, 3, none⟩) e).trans h.fro, fun j hj => ⟨(World.cell?_of_block (w := w) (a := ⟨T, j, none⟩) e).trans (h.rest j hj).1, (World.frozen?_of_block (w := w) (a := ⟨T, j, none⟩) e).trans (h.rest j hj).2⟩, fun U hU => (h.ty U hU).block e⟩
theorem RbJ.nil (h : RbJ w0 T n v0 l b0 b3 b9 b10 false false l9 false l12 w) : RbJ w0 T n v0 l (.slice (some ⟨w.heap.size, 0, none⟩) 0 0) b3 b9 b10 true false l9 false l12 (w.alloc (.cells #[] 3)) := by
  have hb : Below w.heap.size w (w.alloc (.cells #[] 3)) := (Below.refl _ _).alloc (Nat.le_refl _) _
  obtain ⟨h1, h2, h3, h9⟩ := h.rest' (hb.block T h.tl)
  refine ⟨h.chg.alloc _, h1, h2, h3, h9, fun _ _ => El.Own.lit w _ h.chg.size [] (by simp) #[] rfl, fun e => (by cases e), fun e => (by cases e), fun e e' => ?_⟩
  obtain ⟨k, a1, a2, a3, a4, a5, a6⟩ := h.bx e e'
  refine ⟨k, a1, a2, by rw [World.size_alloc]; omega, a4.later hb, fun _ _ e => ?_, fun e => (by cases e)⟩
  have : w.heap.size = k := by simpa [Value.ownBlock] using e
  omega
theorem RbJ.app1 {v' : Value} (h : RbJ w0 T n v0 l b0 b3 b9 b10 true false l9 false l12 w) (hT : T < w0.heap.size) (ho : EI.Own w' w0.heap.size v' l) (hg : w.grownBy w' b0.ownBlock) (hn : ∀ b, v'.ownBlock = some b → b0.ownBlock = some b ∨ w.heap.size ≤ b) : RbJ w0 T n v0 l b0 v' b9 b10 true true l9 false l12 w' := by
  have hr : ∀ k, b0.ownBlock = some k → w0.heap.size ≤ k := fun k hk => ((h.e0 rfl rfl).lt k hk).1
  obtain ⟨h1, h2, h3, h9⟩ := h.rest' (hg.block T h.tl (fun e => by have := hr T e.symm; omega))
  refine ⟨h.chg.grown hg fun k hk hk0 => by have := hr k hk; omega, h1, h2, h3, h9, fun _ e => (by cases e), fun _ _ => ho, fun e => (by cases e), fun e e' => ?_⟩
  obtain ⟨k, a1, a2, a3, a4, a5, a6⟩ := h.bx e e'
  refine ⟨k, a1, a2, Nat.lt_of_lt_of_le a3 hg.size, a4.grown' hg (a5 rfl rfl), fun _ e => (by cases e), fun _ e => ?_⟩
  rcases hn k e with h4 | h4
  · exact a5 rfl rfl h4
  · omega
theorem RbJ.one (h : RbJ w0 T n v0 l b0 b3 b9 b10 l0 l3 false false l12 w) : RbJ w0 T n v0 l b0 b3 (.slice (some ⟨w.heap.size, 0, none⟩) 1 1) b10 l0 l3 true false l12 (w.alloc (.cells #[.int .i64 n] 3)) := by
  have hb : Below w.heap.size w (w.alloc (.cells #[.int .i64 n] 3)) := (Below.refl _ _).alloc (Nat.le_refl _) _
  obtain ⟨h1, h2, h3, h9⟩ := h.rest' (hb.block T h.tl)
  refine ⟨h.chg.alloc _, h1, h2, h3, h9, fun e e' => El.Own.later (h.e0 e e') hb, fun e e' => El.Own.later (h.e3 e e') hb, fun e => (by cases e), fun _ _ => ⟨_, rfl, h.chg.size, by rw [World.size_alloc]; omega, BoxAt.new w [.int .i64 n] _, fun e e' e2 => ?_, fun e e2 => ?_⟩⟩
  · have := ((h.e0 e e').lt _ e2).2; omega
  · have := ((h.e3 e rfl).lt _ e2).2; omega
theorem RbJ.app2 {v' : Value} (h : RbJ w0 T n v0 l b0 b3 b9 b10 true true true false false w) (hT : T < w0.heap.size) (ho : EI.Own w' w0.heap.size v' (l ++ [n])) (hg : w.grownBy w' b3.ownBlock) : RbJ w0 T n v0 l b0 b3 b9 v' true true true true false w' := by
  have hr : ∀ k, b3.ownBlock = some k → w0.heap.size ≤ k := fun k hk => ((h.e3 rfl rfl).lt k hk).1
  obtain ⟨h1, h2, h3, h9⟩ := h.rest' (hg.block T h.tl (fun e => by have := hr T e.symm; omega))
  exact ⟨h.chg.grown hg fun k hk hk0 => by have := hr k hk; omega, h1, h2, h3, h9, fun _ e => (by cases e), fun _ e => (by cases e), fun _ => ho, fun _ e => (by cases e)⟩
theorem RbJ.stored (h : RbJ w0 T n v0 l b0 b3 b9 b10 true true true true false w) (hT : T < w0.heap.size) : RbJ w0 T n v0 l b0 b3 b9 b10 true true true true true (w.setCell ⟨T, 3, none⟩ b10) := by
  refine ⟨h.chg.setCell (p := ⟨T, 3, none⟩) (fun _ => rfl) _, World.cell?_setCell_same _ _ _ h.cell, by rw [World.frozen?_setCell]; exact h.fro, fun j hj => ?_, fun U hU => (h.ty U hU).setCell _ _ _, fun _ e => (by cases e), fun _ e => (by cases e), fun e => ?_, fun _ e => (by cases e)⟩
  · refine ⟨?_, by rw [World.frozen?_setCell]; exact (h.rest j hj).2⟩
    rw [World.cell?_setCell_other _ _ _ _ (by intro e; exact hj (congrArg Addr.off e).symm)]
    exact (h.rest j hj).1
  · refine El.Own.block (h.e10 e) fun g hg => heap_setCell_other w ⟨T, 3, none⟩ g b10 ?_
    show ¬ g = T
    have := ((h.e10 e).lt g hg).1
    omega
end
end Go.Proofs.Ytgoomcnaemfjcaa
