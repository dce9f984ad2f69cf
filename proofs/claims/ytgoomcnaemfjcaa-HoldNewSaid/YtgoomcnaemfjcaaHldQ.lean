


/- One side of a region that appends a made element to a list of the call's own (for HoldEverybody). -/
import Derived.Test.YtgoomcnaemfjcaaHldO
import Derived.Test.YtgoomcnaemfjcaaHldN
namespace Go.Proofs.Ytgoomcnaemfjcaa
open Go.RowKit

theorem El.At.blk {α : Type} {E : El α} {w w' : World} {b off : Nat} {l : List α} (h : E.At w (some ⟨b, off, none⟩) l) (e : w'.heap[b]? = w.heap[b]?) : E.At w' (some ⟨b, off, none⟩) l := fun j u hu => by
  obtain ⟨b', o', e', hc⟩ := h j u hu
  cases e'
  exact ⟨b, off, rfl, (World.cell?_of_block (w := w) (a := ⟨b, off + j, none⟩) e).trans hc⟩
/-- the list v of l, a box b of x, the appended list b' -/
structure Sd {α : Type} (E : El α) (w0 : World) (B : Nat) (v : Value) (l : List α) (x : α) (b b' : Value) (p q : Bool) (w : World) : Prop where
  o0 : q = false → E.Own w B v l
  bx : p = true → q = false → ∃ k, b = .slice (some ⟨k, 0, none⟩) 1 1 ∧ w0.heap.size ≤ k ∧ k < w.heap.size ∧ E.At w (some ⟨k, 0, none⟩) [x]
  o1 : q = true → E.Own w B b' (l ++ [x])
section
variable {α : Type} {E : El α} {w0 w w' : World} {B : Nat} {v : Value} {l : List α} {x : α} {b b' : Value} {p q : Bool}
theorem Sd.start (h : E.Own w0 B v l) : Sd E w0 B v l x b b' false false w0.drew := ⟨fun _ => h.later ((Below.refl _ _).drew), fun e => (by cases e), fun e => (by cases e)⟩
theorem Sd.later (h : Sd E w0 B v l x b b' p q w) (hb : Below w.heap.size w w') : Sd E w0 B v l x b b' p q w' := by
  refine ⟨fun e => (h.o0 e).later hb, fun e e' => ?_, fun e => (h.o1 e).later hb⟩
  obtain ⟨k, h1, h2, h3, h4⟩ := h.bx e e'
  exact ⟨k, h1, h2, Nat.lt_of_lt_of_le h3 hb.size, h4.later hb⟩
theorem Sd.other {row : Option Nat} {U : TypeId} (h : Sd E w0 B v l x b b' p q w) (hg : w.grownBy w' row) (hU : ∀ g, row = some g → IsTy w g U) (hne : E.T ≠ U) (hr : ∀ g, row = some g → g < w0.heap.size) : Sd E w0 B v l x b b' p q w' := by
  have hk : ∀ {u : Value} {L : List α}, E.Own w B u L → E.Own w' B u L := fun {u L} ho => ho.block fun g hg' => hg.block g (ho.lt g hg').2 fun e => absurd rfl ((ho.ty hg').ne (hU g e.symm) hne)
  refine ⟨fun e => hk (h.o0 e), fun e e' => ?_, fun e => hk (h.o1 e)⟩
  obtain ⟨k, h1, h2, h3, h4⟩ := h.bx e e'
  exact ⟨k, h1, h2, Nat.lt_of_lt_of_le h3 hg.size, h4.blk (hg.block k h3 fun e2 => by have := hr k e2.symm; omega)⟩
theorem Sd.made (h : Sd E w0 B v l x b b' false false w) (hs : w0.heap.size ≤ w.heap.size) (cs : Array Value) (hc : cs = (E.cf x).toArray) (T : TypeId) : Sd E w0 B v l x (.slice (some ⟨w.heap.size, 0, none⟩) 1 1) b' true false (w.alloc (.cells cs T)) := by
  have hb : Below w.heap.size w (w.alloc (.cells cs T)) := (Below.refl _ _).alloc (Nat.le_refl _) _
  exact ⟨fun _ => (h.o0 rfl).later hb, fun _ _ => ⟨_, rfl, hs, by rw [World.size_alloc]; omega, El.at_lit' E w [x] cs T (by rw [hc]; simp)⟩, fun e => (by cases e)⟩
theorem Sd.app {v' : Value} (_h : Sd E w0 B v l x b b' true false w) (ho : E.Own w' B v' (l ++ [x])) : Sd E w0 B v l x b v' true true w' :=
  ⟨fun e => (by cases e), fun _ e => (by cases e), fun _ => ho⟩
/-- the append itself -/
theorem Sd.run (h : Sd E w0 B v l x b b' true false w) (hl : l.length ≤ 10000) (hB : B ≤ w.heap.size) (ty : TypeId) : ∃ v' w', (Builtin.append_ #[E.TS, E.TS] ty #[v, b]).run Try.prog w = .ok v' w' ∧ Sd E w0 B v l x b v' true true w' ∧ w.grownBy w' v.ownBlock := by
  obtain ⟨k, e, _, _, hat⟩ := h.bx rfl rfl
  obtain ⟨v', w', hr, ho, hg, _⟩ := El.app (E := E) w B v l [x] (h.o0 rfl) (some ⟨k, 0, none⟩) 1 hat (by simp; omega) hB ty
  exact ⟨v', w', by rw [e]; exact hr, h.app ho, hg⟩
end
theorem ownBlock_ty {α : Type} {E : El α} {w0 w : World} {B : Nat} {v : Value} {l : List α} {x : α} {b b' : Value} {p : Bool} (h : Sd E w0 B v l x b b' p false w) : ∀ g, v.ownBlock = some g → IsTy w g E.T := fun _ hg => (h.o0 rfl).ty hg
/-! ### the members but the last -/
noncomputable def butR (h : Hd) (a : Int) (i : Nat) : List Rec := ((h.mem.take i).filter (fun x => !decide (x = a))).map (fun x => backR x h.id)
theorem butR_zero (h : Hd) (a : Int) : butR h a 0 = [] := by simp [butR]
theorem butR_len (h : Hd) (a : Int) (i : Nat) : (butR h a i).length ≤ i := by
  unfold butR
  rw [List.length_map]
  have h1 := List.length_filter_le (fun x => !decide (x = a)) (h.mem.take i)
  rw [List.length_take] at h1
  omega
theorem butR_succ {h : Hd} {a : Int} {i : Nat} (hi : i < h.mem.length) : butR h a (i + 1) = butR h a i ++ (if h.mem[i] = a then [] else [backR h.mem[i] h.id]) := by
  unfold butR
  rw [List.take_succ_eq_append_getElem hi, List.filter_append, List.map_append]
  congr 1
  by_cases e : h.mem[i] = a <;> simp [e]
theorem butR_kind (h : Hd) (a : Int) (i : Nat) : ∀ r ∈ butR h a i, r.kind = 6 ∧ r.target = h.id ∧ r.members = [] ∧ RecF r ∧ r.ma = none := by
  intro r hr
  obtain ⟨x, _, rfl⟩ := List.mem_map.1 hr
  exact ⟨rfl, rfl, rfl, backF _ _, rfl⟩
theorem butR_most {h : Hd} {a : Int} {n : Nat} (hn : h.mem.length = n + 1) (ha : h.mem[n]? = some a) (x : Int) : x ∈ (butR h a n).map (·.author) ↔ (x ∈ h.mem ∧ x ≠ a) := by
  have e : (butR h a n).map (·.author) = (h.mem.take n).filter (fun x => !decide (x = a)) := by
    unfold butR
    rw [List.map_map]
    exact List.map_id' _
  have e2 : h.mem = h.mem.take n ++ [a] := by
    conv => lhs; rw [← List.take_length (l := h.mem), hn]
    rw [List.take_add_one, ha]
    rfl
  rw [e, List.mem_filter]
  constructor
  · rintro ⟨h1, h2⟩
    exact ⟨List.mem_of_mem_take h1, by simpa using h2⟩
  · rintro ⟨h1, h2⟩
    rw [e2] at h1
    rcases List.mem_append.1 h1 with h3 | h3
    · exact ⟨h3, by simpa using h2⟩
    · exact absurd (List.mem_singleton.1 h3) h2
theorem run_mem20 (z : List (ByteArray × Rec)) (n : Nat) (hz : ∀ y ∈ z, y.2.members.length ≤ n) : ∀ h ∈ runH z, h.mem.length ≤ n := by
  have : ∀ (z : List (ByteArray × Rec)), (∀ y ∈ z, y.2.members.length ≤ n) → ∀ hs, (∀ h ∈ hs, h.mem.length ≤ n) → ∀ h ∈ z.foldl stepH hs, h.mem.length ≤ n := fun z => by
    induction z with
    | nil => exact fun _ _ h => h
    | cons x z ih =>
      intro hz hs h
      rw [List.foldl_cons]
      refine ih (fun y hy => hz y (List.mem_cons_of_mem _ hy)) _ ?_
      have hx := hz x (List.mem_cons_self ..)
      unfold stepH
      split
      · split
        · intro k hk
          rcases List.mem_append.1 hk with hk | hk
          · exact h k hk
          · simp only [List.mem_singleton] at hk
            rw [hk]
            exact hx
        · exact h
      · split
        · intro k hk
          obtain ⟨y, hy, rfl⟩ := List.mem_map.1 hk
          rw [backH_mem]
          exact h y hy
        · exact h
  exact this z hz [] (fun h hh => by cases hh)
end Go.Proofs.Ytgoomcnaemfjcaa
