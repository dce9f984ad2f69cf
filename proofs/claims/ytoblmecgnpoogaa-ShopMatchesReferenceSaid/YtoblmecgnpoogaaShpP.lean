

/- Package shop: the region of Plan that makes begun, done and done's box. -/
import Derived.Test.YtoblmecgnpoogaaChg
import Derived.Test.YtoblmecgnpoogaaOwn
import Derived.Laws.MakeOwn
namespace Go.Proofs.Ytoblmecgnpoogaa
open Go.RowKit

theorem mk_bools (n : Nat) (hn : n ≤ 1000000) (w : World) : (Instr.makeSlice 52 (.int .i64 n) (.int .i64 n)).run Try.prog w = .ok (.slice (some ⟨w.heap.size, 0, none⟩) n n) (w.alloc (.cells (Array.replicate n (Value.bool false)) 4)) := by
  obtain ⟨i0, hi, hz0, hz1, hz2⟩ := info_parts info_bool
  have hr := run_make (P := Try.prog) w 52 4 i0 (.bool false) Try.underlying52 hi hz0 .i64 .i64 n n (by omega) (Int.le_refl _) (by rw [hz2]; omega) (by omega)
  simp only [Int.toNat_natCast] at hr
  rw [hr]
  have e : madeCells (Value.cells (.bool false)) (n * i0.size) = (Array.replicate n (Value.bool false)) := by
    rw [hz1, Nat.mul_one]
    apply Array.toList_inj.1
    rw [Array.toList_replicate]
    exact toList_madeCells_one _ _
  rw [e]
theorem mk_ints (n : Nat) (hn : n ≤ 1000000) (w : World) : (Instr.makeSlice 23 (.int .i64 n) (.int .i64 n)).run Try.prog w = .ok (.slice (some ⟨w.heap.size, 0, none⟩) n n) (w.alloc (.cells (Array.replicate n (Value.int .i64 0)) 3)) := by
  obtain ⟨i0, hi, hz0, hz1, hz2⟩ := info_parts info_int
  have hr := run_make (P := Try.prog) w 23 3 i0 (.int .i64 0) Try.underlying23 hi hz0 .i64 .i64 n n (by omega) (Int.le_refl _) (by rw [hz2]; omega) (by omega)
  simp only [Int.toNat_natCast] at hr
  rw [hr]
  have e : madeCells (Value.cells (.int .i64 0)) (n * i0.size) = (Array.replicate n (Value.int .i64 0)) := by
    rw [hz1, Nat.mul_one]
    apply Array.toList_inj.1
    rw [Array.toList_replicate]
    exact toList_madeCells_one _ _
  rw [e]
theorem heap_new (w : World) (o : Obj) : (w.alloc o).heap[w.heap.size]? = some o := by
  show (w.heap.push o)[w.heap.size]? = some o
  simp
theorem OwnB.new (w : World) (B n : Nat) (hB : B ≤ w.heap.size) (hn : n ≤ 1000000) : OwnB (w.alloc (.cells (Array.replicate n (Value.bool false)) 4)) B w.heap.size (List.replicate n false) := by
  refine ⟨by simp, .inr ⟨w.heap.size, n, (Array.replicate n (Value.bool false)), by simp, hB, heap_new _ _, by simp, by unfold maxLen; omega, by simp, ?_⟩⟩
  rw [List.length_replicate, List.map_replicate, Nat.mul_one, Array.toList_replicate]
  exact List.take_of_length_le (by rw [List.length_replicate]; exact Nat.le_refl _)
theorem OwnB.off {w : World} {B g : Nat} {l : List Bool} (h : OwnB w B g l) {p : Addr} (hp : g ≠ p.block) (u : Value) : OwnB (w.setCell p u) B g l := by
  have hc : Chg (fun k => k = p.block) w (w.setCell p u) := Chg.setCell (S := fun k => k = p.block) (p := p) (Chg.refl _ w) (fun _ => rfl) u
  exact hc.owns h fun k hk => by simp [Value.ownBlock] at hk; subst hk; exact hp
theorem OwnI.new (w : World) (B n : Nat) (hB : B ≤ w.heap.size) (hn : n ≤ 1000000) : OwnI (w.alloc (.cells (Array.replicate n (Value.int .i64 0)) 3)) B (.slice (some ⟨w.heap.size, 0, none⟩) n n) (List.replicate n 0) := by
  refine ⟨by simp, .inr ⟨w.heap.size, n, (Array.replicate n (Value.int .i64 0)), by simp, hB, heap_new _ _, by simp, by unfold maxLen; omega, by simp, ?_⟩⟩
  rw [List.length_replicate, List.map_replicate, Nat.mul_one, Array.toList_replicate]
  exact List.take_of_length_le (by rw [List.length_replicate]; exact Nat.le_refl _)
structure P9 (w0 : World) (n : Nat) (β : Nat → Value) (l2 l5 l6 l8 : Bool) (w : World) : Prop where
  bl : Below w0.heap.size w0 w
  a2 : l2 = true → ∃ m, β 2 = .slice (some ⟨m, 0, none⟩) n n ∧ m < w.heap.size ∧ OwnB w w0.heap.size m (List.replicate n false)
  a5 : l5 = true → ∃ m, β 5 = .slice (some ⟨m, 0, none⟩) n n ∧ m < w.heap.size ∧ OwnB w w0.heap.size m (List.replicate n false)
  a6 : l6 = true → ∃ m, β 6 = .pointer (some ⟨m, 0, none⟩) ∧ w0.heap.size ≤ m ∧ m < w.heap.size ∧ BoxAt w m [if l8 then β 5 else .slice none 0 0]
  n25 : l2 = true → l5 = true → blk (β 2) ≠ blk (β 5)
  n26 : l2 = true → l6 = true → blk (β 2) ≠ blk (β 6)
  n56 : l5 = true → l6 = true → blk (β 5) ≠ blk (β 6)
section
variable {w0 w : World} {n : Nat} {β : Nat → Value} {l2 l5 l6 l8 : Bool}
theorem P9.lt2 (h : P9 w0 n β l2 l5 l6 l8 w) (e : l2 = true) : blk (β 2) < w.heap.size := by
  obtain ⟨m, hm, hl, _⟩ := h.a2 e
  rw [hm]; exact hl
theorem P9.lt5 (h : P9 w0 n β l2 l5 l6 l8 w) (e : l5 = true) : blk (β 5) < w.heap.size := by
  obtain ⟨m, hm, hl, _⟩ := h.a5 e
  rw [hm]; exact hl
theorem P9.lt6 (h : P9 w0 n β l2 l5 l6 l8 w) (e : l6 = true) : blk (β 6) < w.heap.size := by
  obtain ⟨m, hm, _, hl, _⟩ := h.a6 e
  rw [hm]; exact hl
theorem P9.make2 (h : P9 w0 n β false l5 l6 l8 w) (hn : n ≤ 1000000) : P9 w0 n (updG β 2 (.slice (some ⟨w.heap.size, 0, none⟩) n n)) true l5 l6 l8 (w.alloc (.cells (Array.replicate n (Value.bool false)) 4)) := by
  have hb : Below w.heap.size w (w.alloc (.cells (Array.replicate n (Value.bool false)) 4)) := (Below.refl _ _).alloc (Nat.le_refl _) _
  have hs : (w.alloc (.cells (Array.replicate n (Value.bool false)) 4)).heap.size = w.heap.size + 1 := by simp
  have e5 : updG β 2 (.slice (some ⟨w.heap.size, 0, none⟩) n n) 5 = β 5 := updG_ne _ _ (by decide)
  have e6 : updG β 2 (.slice (some ⟨w.heap.size, 0, none⟩) n n) 6 = β 6 := updG_ne _ _ (by decide)
  have e2 : updG β 2 (.slice (some ⟨w.heap.size, 0, none⟩) n n) 2 = .slice (some ⟨w.heap.size, 0, none⟩) n n := updG_at _ _ _
  have hz := h.bl.size
  refine ⟨h.bl.trans (hb.mono hz), fun _ => ⟨_, e2, by omega, OwnB.new w _ n hz hn⟩, fun e => ?_, fun e => ?_, fun _ e => ?_, fun _ e => ?_, fun e e' => ?_⟩
  · obtain ⟨m, h1, h2, h3⟩ := h.a5 e
    exact ⟨m, by rw [e5]; exact h1, by omega, h3.later hb⟩
  · obtain ⟨m, h1, h2, h3, h4⟩ := h.a6 e
    exact ⟨m, by rw [e6]; exact h1, h2, by omega, by rw [e5]; exact h4.later hb⟩
  · rw [e2, e5]
    have := h.lt5 e
    show w.heap.size ≠ _
    omega
  · rw [e2, e6]
    have := h.lt6 e
    show w.heap.size ≠ _
    omega
  · rw [e5, e6]
    exact h.n56 e e'
theorem P9.make5 (h : P9 w0 n β l2 false l6 false w) (hn : n ≤ 1000000) : P9 w0 n (updG β 5 (.slice (some ⟨w.heap.size, 0, none⟩) n n)) l2 true l6 false (w.alloc (.cells (Array.replicate n (Value.bool false)) 4)) := by
  have hb : Below w.heap.size w (w.alloc (.cells (Array.replicate n (Value.bool false)) 4)) := (Below.refl _ _).alloc (Nat.le_refl _) _
  have hs : (w.alloc (.cells (Array.replicate n (Value.bool false)) 4)).heap.size = w.heap.size + 1 := by simp
  have e2 : updG β 5 (.slice (some ⟨w.heap.size, 0, none⟩) n n) 2 = β 2 := updG_ne _ _ (by decide)
  have e6 : updG β 5 (.slice (some ⟨w.heap.size, 0, none⟩) n n) 6 = β 6 := updG_ne _ _ (by decide)
  have e5 : updG β 5 (.slice (some ⟨w.heap.size, 0, none⟩) n n) 5 = .slice (some ⟨w.heap.size, 0, none⟩) n n := updG_at _ _ _
  have hz := h.bl.size
  refine ⟨h.bl.trans (hb.mono hz), fun e => ?_, fun _ => ⟨_, e5, by omega, OwnB.new w _ n hz hn⟩, fun e => ?_, fun e _ => ?_, fun e e' => ?_, fun _ e => ?_⟩
  · obtain ⟨m, h1, h2, h3⟩ := h.a2 e
    exact ⟨m, by rw [e2]; exact h1, by omega, h3.later hb⟩
  · obtain ⟨m, h1, h2, h3, h4⟩ := h.a6 e
    exact ⟨m, by rw [e6]; exact h1, h2, by omega, h4.later hb⟩
  · rw [e2, e5]
    have := h.lt2 e
    show _ ≠ w.heap.size
    omega
  · rw [e2, e6]
    exact h.n26 e e'
  · rw [e5, e6]
    have := h.lt6 e
    show w.heap.size ≠ _
    omega
theorem P9.alloc6 (h : P9 w0 n β l2 l5 false false w) (T : TypeId) : P9 w0 n (updG β 6 (.pointer (some ⟨w.heap.size, 0, none⟩))) l2 l5 true false (w.alloc (.cells #[.slice none 0 0] T)) := by
  have hb : Below w.heap.size w (w.alloc (.cells #[.slice none 0 0] T)) := (Below.refl _ _).alloc (Nat.le_refl _) _
  have hs : (w.alloc (.cells #[.slice none 0 0] T)).heap.size = w.heap.size + 1 := by simp
  have e2 : updG β 6 (.pointer (some ⟨w.heap.size, 0, none⟩)) 2 = β 2 := updG_ne _ _ (by decide)
  have e5 : updG β 6 (.pointer (some ⟨w.heap.size, 0, none⟩)) 5 = β 5 := updG_ne _ _ (by decide)
  have e6 : updG β 6 (.pointer (some ⟨w.heap.size, 0, none⟩)) 6 = .pointer (some ⟨w.heap.size, 0, none⟩) := updG_at _ _ _
  have hz := h.bl.size
  refine ⟨h.bl.trans (hb.mono hz), fun e => ?_, fun e => ?_, fun _ => ⟨_, e6, hz, by omega, BoxAt.new w [.slice none 0 0] T⟩, fun e e' => ?_, fun e _ => ?_, fun e _ => ?_⟩
  · obtain ⟨m, h1, h2, h3⟩ := h.a2 e
    exact ⟨m, by rw [e2]; exact h1, by omega, h3.later hb⟩
  · obtain ⟨m, h1, h2, h3⟩ := h.a5 e
    exact ⟨m, by rw [e5]; exact h1, by omega, h3.later hb⟩
  · rw [e2, e5]
    exact h.n25 e e'
  · rw [e2, e6]
    have := h.lt2 e
    show _ ≠ w.heap.size
    omega
  · rw [e5, e6]
    have := h.lt5 e
    show _ ≠ w.heap.size
    omega
theorem P9.store8 (h : P9 w0 n β l2 true true false w) {m : Nat} (hm : β 6 = .pointer (some ⟨m, 0, none⟩)) : P9 w0 n β l2 true true true (w.setCell ⟨m, 0, none⟩ (β 5)) := by
  obtain ⟨m', h1, h2, h3, h4⟩ := h.a6 rfl
  obtain rfl : m' = m := by rw [hm] at h1; cases h1; rfl
  have hb6 : blk (β 6) = m' := by rw [hm]; rfl
  have hz := h.bl.size
  have hs : (w.setCell ⟨m', 0, none⟩ (β 5)).heap.size = w.heap.size := World.size_setCell ..
  refine ⟨h.bl.setCell (by exact h2) _, fun e => ?_, fun e => ?_, fun _ => ⟨m', hm, h2, by omega, ?_⟩, h.n25, h.n26, h.n56⟩
  · obtain ⟨m2, g1, g2, g3⟩ := h.a2 e
    have hne := h.n26 e rfl
    rw [hb6, g1] at hne
    exact ⟨m2, g1, by omega, g3.off (p := ⟨m', 0, none⟩) hne _⟩
  · obtain ⟨m2, g1, g2, g3⟩ := h.a5 e
    have hne := h.n56 e rfl
    rw [hb6, g1] at hne
    exact ⟨m2, g1, by omega, g3.off (p := ⟨m', 0, none⟩) hne _⟩
  · exact h4.stored (vs := [β 5]) rfl
end
end Go.Proofs.Ytoblmecgnpoogaa

