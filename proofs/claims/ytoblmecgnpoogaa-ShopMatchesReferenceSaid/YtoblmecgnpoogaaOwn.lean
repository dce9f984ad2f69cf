/- Slices of the call's own: numbers and booleans that it made, appended to and written. -/
import Derived.Test.YtoblmecgnpoogaaProg
import Derived.Test.YtoblmecgnpoogaaData
import Derived.OneCell
import Derived.OwnWalk
import Derived.ScopeJumps
namespace Go.Proofs.Ytoblmecgnpoogaa
open Go.RowKit

theorem info_int : (Try.prog.info? 3).map (fun i => (i.zero, i.size, i.bytes)) = some (some (.int .i64 0), 1, 8) := by kernel_rfl
theorem info_bool : (Try.prog.info? 4).map (fun i => (i.zero, i.size, i.bytes)) = some (some (.bool false), 1, 1) := by kernel_rfl

/-- the slice v holds these numbers, in a block of the call's own from B on -/
def OwnI (w : World) (B : Nat) (v : Value) (l : List Int) : Prop := w.ownsRow B 3 1 v l.length (l.map (Value.int .i64))
/-- the same, of booleans, at the head of block g -/
def OwnB (w : World) (B g : Nat) (l : List Bool) : Prop := w.ownsRow B 4 1 (.slice (some ⟨g, 0, none⟩) l.length l.length) l.length (l.map Value.bool)

theorem grown_none {w w1 : World} (hb : Below w.heap.size w w1) : w.grownBy w1 none := ⟨hb.os, hb.tape, hb.output, hb.size, fun k hk _ => hb.block k hk⟩
theorem OwnI.later {w w1 : World} {B : Nat} {v : Value} {l : List Int} (h : OwnI w B v l) (hb : Below w.heap.size w w1) : OwnI w1 B v l :=
  World.ownsRow.kept h (grown_none hb) (by cases v.ownBlock <;> simp)
theorem OwnB.later {w w1 : World} {B g : Nat} {l : List Bool} (h : OwnB w B g l) (hb : Below w.heap.size w w1) : OwnB w1 B g l :=
  World.ownsRow.kept h (grown_none hb) (by simp [Value.ownBlock])
theorem OwnI.nil (w : World) (B : Nat) : OwnI w B (.slice none 0 0) [] := World.ownsRow_nil w B _ _
theorem OwnI.len {w : World} {B : Nat} {v : Value} {l : List Int} (h : OwnI w B v l) : ∃ a cap, v = .slice a l.length cap := by
  rcases h.2 with ⟨rfl, hn⟩ | ⟨g, cap, cur, rfl, _⟩
  · exact ⟨none, 0, by rw [hn]⟩
  · exact ⟨_, cap, rfl⟩
theorem OwnI.ints {w : World} {B : Nat} {v : Value} {l : List Int} (h : OwnI w B v l) : ∃ a cap, v = .slice a l.length cap ∧ Ints w a l ∧ (∀ g, v.ownBlock = some g → B ≤ g ∧ g < w.heap.size) := by
  have hlt := World.ownsRow.lt h
  rcases h.2 with ⟨rfl, hn⟩ | ⟨g, cap, cur, rfl, hb, hg, hc, hm, hs, ht⟩
  · exact ⟨none, 0, by rw [hn], fun j hj => absurd hj (by omega), hlt⟩
  · refine ⟨_, cap, rfl, fun j hj => ⟨g, 0, rfl, ?_⟩, hlt⟩
    rw [Nat.zero_add, World.ownsRow.cellAt h j (by omega)]
    simp [hj, ig]
theorem OwnB.bools {w : World} {B g : Nat} {l : List Bool} (h : OwnB w B g l) : Bools w (some ⟨g, 0, none⟩) l := fun j hj => by
  refine ⟨g, 0, rfl, ?_⟩
  rw [Nat.zero_add, World.ownsRow.cellAt h j (by omega)]
  simp [hj, bg]
theorem OwnB.cell {w : World} {B g : Nat} {l : List Bool} (h : OwnB w B g l) {j : Nat} (hj : j < l.length) : w.cell? ⟨g, j, none⟩ = some (.bool (bg l j)) := by
  rw [World.ownsRow.cellAt h j (by omega)]
  simp [hj, bg]
theorem OwnB.free {w : World} {B g : Nat} {l : List Bool} (h : OwnB w B g l) (j : Nat) : w.frozen? ⟨g, j, none⟩ = false := World.ownsRow.frozenAt h j
theorem OwnB.lt {w : World} {B g : Nat} {l : List Bool} (h : OwnB w B g l) : B ≤ g ∧ g < w.heap.size := World.ownsRow.lt h g rfl
theorem OwnB.set {w : World} {B g : Nat} {l : List Bool} (h : OwnB w B g l) (j : Nat) (x : Bool) : OwnB (w.setCell ⟨g, j, none⟩ (.bool x)) B g (l.set j x) := by
  have k := (World.ownsRow.stored h j (.bool x)).1
  unfold OwnB
  rw [List.map_set, List.length_set]
  exact k
theorem OwnB.mono {w : World} {B B' g : Nat} {l : List Bool} (h : OwnB w B g l) (hB : B' ≤ B) : OwnB w B' g l := by
  obtain ⟨h1, h2⟩ := h
  refine ⟨h1, ?_⟩
  rcases h2 with h2 | ⟨g1, cap, cur, hv, hg, rest⟩
  · exact .inl h2
  · exact .inr ⟨g1, cap, cur, hv, by omega, rest⟩
/-- a block of booleans is none of numbers -/
theorem own_apart {w : World} {B B' g : Nat} {v : Value} {l : List Int} {d : List Bool} (h : OwnI w B v l) (h' : OwnB w B' g d) : v.ownBlock ≠ some g := by
  rcases h.2 with ⟨rfl, _⟩ | ⟨g1, cap, cur, rfl, _, hg, _⟩
  · simp [Value.ownBlock]
  · rcases h'.2 with ⟨h0, _⟩ | ⟨g2, cap2, cur2, h0, _, hg2, _⟩
    · cases h0
    · cases h0
      intro e
      simp [Value.ownBlock] at e
      subst e
      rw [hg] at hg2
      simp at hg2
theorem OwnI.setOther {w : World} {B B' g : Nat} {v : Value} {l : List Int} {d : List Bool} (h : OwnI w B v l) (h' : OwnB w B' g d) (j : Nat) (x : Value) : OwnI (w.setCell ⟨g, j, none⟩ x) B v l :=
  ownsRow_setCell_other h (own_apart h h') x
theorem OwnB.grown {w w1 : World} {B B' g : Nat} {v : Value} {l : List Int} {d : List Bool} (h' : OwnB w B' g d) (h : OwnI w B v l) (hg : w.grownBy w1 v.ownBlock) : OwnB w1 B' g d :=
  World.ownsRow.kept h' hg (.inr (by have := own_apart h h'; simp only [Value.ownBlock]; exact fun e => this e.symm))

/-- out = append(out, y) -/
theorem append_int (w : World) {ops : Array Oper} {rest : List Oper} {o : Oper} {a : Act} {Q : Exit → Act → World → Prop} (hgd : o.guard = none) (s x : Operand)
    (ho : o.op = .call { callee := .builtin .append, args := #[s, x], argTypes := #[23, 23] }) (B : Nat) (v : Value) (l : List Int) (y : Int) (hs : a.eval s = v) (hown : OwnI w B v l)
    (b c : Nat) (hx : a.eval x = .slice (some ⟨b, 0, none⟩) 1 c) (hc : w.cell? ⟨b, 0, none⟩ = some (.int .i64 y)) (hl : l.length + 1 ≤ 1000000000000) (hB : B ≤ w.heap.size)
    (h : ∀ v' w', OwnI w' B v' (l ++ [y]) → w.grownBy w' v.ownBlock → wpList Try.prog ops Q rest (a.put o.dst v') w') : wpList Try.prog ops Q (o :: rest) a w := by
  obtain ⟨i0, hi, hz0, hz1, hz2⟩ := info_parts info_int
  refine wpList_append_own w hgd s x 23 ho B 3 i0 (.int .i64 0) 1 8 Try.underlying23 hi hz0 hz1 hz2 rfl (by decide) v l.length _ hs hown ⟨b, 0, none⟩ 1 c [.int .i64 y] hx rfl ?_ ?_ (by unfold maxLen; omega) (by omega) hB fun v' w' h1 h2 _ => h v' w' ?_ h2
  · intro j u hu
    match j, hu with
    | 0, hu => simp at hu; subst hu; simpa [Addr.add] using hc
  · intro u hu
    simp at hu
    subst hu
    rfl
  · unfold OwnI
    simpa using h1
/-- make([]bool, n) -/
theorem make_bool (w : World) {ops : Array Oper} {rest : List Oper} {o : Oper} {a : Act} {Q : Exit → Act → World → Prop} (hg : o.guard = none) (l c : Operand) (hop : o.op = Op.makeSlice 52 l c)
    (kl kc : IntKind) (n : Nat) (hl : a.eval l = .int kl n) (hc : a.eval c = .int kc n) (hn : n ≤ 1000000000000)
    (hK : ∀ w', OwnB w' w.heap.size w.heap.size (List.replicate n false) → Below w.heap.size w w' → w.heap.size < w'.heap.size → wpList Try.prog ops Q rest (a.put o.dst (.slice (some ⟨w.heap.size, 0, none⟩) n n)) w') : wpList Try.prog ops Q (o :: rest) a w := by
  obtain ⟨i0, hi, hz0, hz1, hz2⟩ := info_parts info_bool
  refine wpList_make_full w hg l c 52 hop w.heap.size 4 i0 (.bool false) 1 Try.underlying52 hi hz0 hz1 kl kc n n n hl hc rfl rfl (by rw [hz2]; omega) (by unfold maxLen; omega) (Nat.le_refl _) fun w' h1 h2 => hK w' ?_ ⟨h2.os, h2.tape, h2.output, h2.size, fun k hk => h2.block k hk (by simp)⟩ (World.ownsRow.lt h1 _ rfl).2
  unfold OwnB
  rw [List.length_replicate, List.map_replicate]
  have e : (madeCells (Value.bool false).cells (n * 1)).toList = List.replicate n (Value.bool false) := by simp [madeCells, Value.cells, Nat.mod_one, List.eq_replicate_iff]
  rwa [e] at h1
/-- a scope with a label that is jumped back to; the first way there is walked once more, up to the label alone -/
theorem wp_scope_label {P : Program} {Q : Exit → Act → World → Prop} {a : Act} {w : World} {c rest : Code} (l : Nat) (J : Act → World → Prop) (μ : Act → World → Nat) (hf : findLabel c l = some (Code.skip.seq rest))
    (pass : ∀ a w, J a w → rest.wp P (Exit.jump l (fun a' w' => J a' w' ∧ μ a' w' < μ a w) Q) a w)
    (first : (∀ a w, J a w → rest.wp P (Exit.jump l J Q) a w) → c.wp P (Exit.jump l J Q) a w) : (Code.scope c).wp P Q a w :=
  wp_scope_jumps l J μ hf (first fun a w h => Code.wp_mono (fun e a w q => by
    cases e <;> first | exact q | exact ⟨q.1, q.2.1⟩) (pass a w h)) fun a w h => by
      apply wp_seq_k
      intro K hK
      apply wp_skip
      exact hK _ _ (pass a w h)
end Go.Proofs.Ytoblmecgnpoogaa

