/- The walk of a region that draws its order, operation by operation: what only reads, calls that change nothing old, new memory, stores into it. -/
import Derived.Test.YtgccankekflchaaFlow
import Derived.Test.YtgccankekflchaaBase
import Derived.Laws.IdiomCopy
namespace Go.Proofs.Ytgccankekflchaa
open Go Go.RowKit

/-- new memory that a region makes: k the operation that makes it, s the one that fills it (if any), the form of its address, the cells before and after -/
structure Bx where
  k : Nat
  s : Option Nat
  shape : Nat → Value
  zero : List Value
  new : List Value
def blk : Value → Nat
  | .pointer (some a) => a.block
  | .slice (some a) _ _ => a.block
  | _ => 0
/-- the cells of a block, none of them frozen -/
def BoxAt (w : World) (n : Nat) (cs : List Value) : Prop := ∀ o v, cs[o]? = some v → w.cell? ⟨n, o, none⟩ = some v ∧ w.frozen? ⟨n, o, none⟩ = false
def Bx.cells (b : Bx) (L : Nat → Bool) : List Value := if (match b.s with | none => true | some s => L s) then b.new else b.zero
abbrev Gx := Nat × (Value → World → Prop)
structure SInv (w0 : World) (bs : List Bx) (gs : List Gx) (β : Nat → Value) (L : Nat → Bool) (w : World) : Prop where
  below : Below w0.heap.size w0 w
  box : ∀ b ∈ bs, L b.k = true → β b.k = b.shape (blk (β b.k)) ∧ w0.heap.size ≤ blk (β b.k) ∧ blk (β b.k) < w.heap.size ∧ BoxAt w (blk (β b.k)) (b.cells L)
  apart : ∀ b ∈ bs, ∀ b' ∈ bs, b.k ≠ b'.k → L b.k = true → L b'.k = true → blk (β b.k) ≠ blk (β b'.k)
  ghost : ∀ g ∈ gs, L g.1 = true → g.2 (β g.1) w
def plainIx (bs : List Bx) (gs : List Gx) (i : Nat) : Bool := (bs.all fun b => b.k != i && b.s != some i) && (gs.all fun g => g.1 != i)
/-- what is known of results stays where nothing old is written -/
def StayG (gs : List Gx) : Prop := ∀ g ∈ gs, ∀ v w w', g.2 v w → Below w.heap.size w w' → g.2 v w'
theorem StayG.nil : StayG [] := fun _ h => absurd h (by simp)
theorem StayG.cons {i : Nat} {G : Value → World → Prop} {gs : List Gx} (h : ∀ v w w', G v w → Below w.heap.size w w' → G v w') (k : StayG gs) : StayG ((i, G) :: gs) := fun g hg => by
  rcases List.mem_cons.1 hg with rfl | hg
  · exact h
  · exact k g hg
theorem BoxAt.later {w w' : World} {n : Nat} {cs : List Value} (h : BoxAt w n cs) (hb : Below w.heap.size w w') : BoxAt w' n cs := fun o v ho =>
  ⟨cell_later hb (h o v ho).1, (hb.frozen (World.block_lt_of_cell? _ _ (h o v ho).1)).trans (h o v ho).2⟩
theorem BoxAt.nil (w : World) (n : Nat) : BoxAt w n [] := fun _ _ h => by simp at h

section
variable {P : Program} {ops : Array Oper} {w0 : World} {bs : List Bx} {gs : List Gx} {K : ((Nat → Value) → Act) → Prop} {o : Oper} {l : List Oper} {i : Nat} {A : (Nat → Value) → Act} {S : World → Prop}

theorem plainIx_spec (h : plainIx bs gs i = true) : (∀ b ∈ bs, b.k ≠ i ∧ b.s ≠ some i) ∧ ∀ g ∈ gs, g.1 ≠ i := by
  unfold plainIx at h
  rw [Bool.and_eq_true] at h
  refine ⟨fun b hb => ?_, fun g hg => ?_⟩
  · have := List.all_eq_true.1 h.1 b hb
    simpa using this
  · have := List.all_eq_true.1 h.2 g hg
    simpa using this
theorem cells_ne {b : Bx} {L : Nat → Bool} (h : b.s ≠ some i) : b.cells (setL L i) = b.cells L := by
  unfold Bx.cells
  cases hs : b.s with
  | none => rfl
  | some s => simp only [setL_ne L (show s ≠ i from fun e => h (by rw [hs, e]))]
/-- an operation that is neither new memory nor a store -/
theorem SInv.plain {β : Nat → Value} {L : Nat → Bool} {w w' : World} (hst : StayG gs) (hp : plainIx bs gs i = true) (h : SInv w0 bs gs β L w) (hb : Below w.heap.size w w') : SInv w0 bs gs β (setL L i) w' := by
  obtain ⟨hp1, hp2⟩ := plainIx_spec hp
  have hs := h.below.size
  refine ⟨h.below.trans (hb.mono hs), fun b hbm hL => ?_, fun b hbm b' hbm' hne hL hL' => ?_, fun g hg hL => ?_⟩
  · rw [setL_ne L (hp1 b hbm).1] at hL
    obtain ⟨h1, h2, h3, h4⟩ := h.box b hbm hL
    refine ⟨h1, h2, Nat.lt_of_lt_of_le h3 hb.size, ?_⟩
    rw [cells_ne (hp1 b hbm).2]
    exact h4.later hb
  · rw [setL_ne L (hp1 b hbm).1] at hL
    rw [setL_ne L (hp1 b' hbm').1] at hL'
    exact h.apart b hbm b' hbm' hne hL hL'
  · rw [setL_ne L (hp2 g hg)] at hL
    exact hst g hg _ _ _ (h.ghost g hg hL) hb

/-- what only reads: the value is the same in every order -/
theorem Flow.pure (hS : ∀ w, Below w0.heap.size w0 w → S w) (hst : StayG gs) {v : Value} (hp : plainIx bs gs i = true) (hw : ∀ β, Region.wanted o (yielded ops (A β).tmps) = true)
    (hr : ∀ β w, S w → (execOp (A β).eval o).run P w = .ok (.value v) w)
    (rest : Flow P ops (SInv w0 bs gs) K l (i + 1) (fun β => (A β).put o.dst v)) : Flow P ops (SInv w0 bs gs) K (o :: l) i A := by
  refine ⟨fun _ => v, ⟨fun _ _ _ _ => rfl, fun β L w h hat => .inl ⟨hw β, ?_⟩⟩, rest⟩
  unfold Oper.wp
  rw [hr β w (hS w h.below)]
  refine ⟨β i, rfl, ?_⟩
  rw [updG_self]
  exact h.plain hst hp (Below.refl _ _)
/-- the same where the value hangs on where new memory lies -/
theorem Flow.pureG (hS : ∀ w, Below w0.heap.size w0 w → S w) (hst : StayG gs) {v : (Nat → Value) → Value} (hp : plainIx bs gs i = true) (hv : ∀ β k b, reach ops ops.size k i = false → v (updG β k b) = v β) (hv' : ∀ β b, v (updG β i b) = v β)
    (hw : ∀ β, Region.wanted o (yielded ops (A β).tmps) = true)
    (hr : ∀ β L w, SInv w0 bs gs β L w → At ops L i → S w → (execOp (A β).eval o).run P w = .ok (.value (v β)) w)
    (rest : Flow P ops (SInv w0 bs gs) K l (i + 1) (fun β => (A β).put o.dst (v β))) : Flow P ops (SInv w0 bs gs) K (o :: l) i A := by
  refine ⟨v, ⟨hv, fun β L w h hat => .inl ⟨hw β, ?_⟩⟩, rest⟩
  unfold Oper.wp
  rw [hr β L w h hat (hS w h.below)]
  refine ⟨β i, by rw [hv'], ?_⟩
  rw [updG_self]
  exact h.plain hst hp (Below.refl _ _)
/-- a guarded operation that is not wanted -/
theorem Flow.skip (hst : StayG gs) (hp : plainIx bs gs i = true) (hw : ∀ β, Region.wanted o (yielded ops (A β).tmps) = false)
    (rest : Flow P ops (SInv w0 bs gs) K l (i + 1) (fun β => (A β).put o.dst undef)) : Flow P ops (SInv w0 bs gs) K (o :: l) i A := by
  refine ⟨fun _ => undef, ⟨fun _ _ _ _ => rfl, fun β L w h hat => .inr ⟨hw β, β i, rfl, ?_⟩⟩, rest⟩
  rw [updG_self]
  exact h.plain hst hp (Below.refl _ _)
/-- a call that leaves what was there as it was, and returns the same in every order -/
theorem Flow.call (hS : ∀ w, Below w0.heap.size w0 w → S w) (hst : StayG gs) {v : Value} (hp : plainIx bs gs i = true) (hw : ∀ β, Region.wanted o (yielded ops (A β).tmps) = true)
    (hr : ∀ β L w, SInv w0 bs gs β L w → At ops L i → S w → ∀ K' : Act → World → Prop, Hid (∀ w', Below w.heap.size w w' → K' ((A β).put o.dst v) w') → o.wp P (A β) w K' (fun _ _ _ => False))
    (rest : Flow P ops (SInv w0 bs gs) K l (i + 1) (fun β => (A β).put o.dst v)) : Flow P ops (SInv w0 bs gs) K (o :: l) i A := by
  refine ⟨fun _ => v, ⟨fun _ _ _ _ => rfl, fun β L w h hat => .inl ⟨hw β, ?_⟩⟩, rest⟩
  refine hr β L w h hat (hS w h.below) _ fun w' hb => ⟨β i, rfl, ?_⟩
  rw [updG_self]
  exact h.plain hst hp hb
/-- a call whose result hangs on the order: a ghost, of which G is known -/
theorem Flow.ghost (hS : ∀ w, Below w0.heap.size w0 w → S w) (hst : StayG gs) (G : Value → World → Prop) (hG : ∀ g ∈ gs, g.1 = i → g = (i, G)) (hb0 : (bs.all fun b => b.k != i && b.s != some i) = true)
    (hw : ∀ β, Region.wanted o (yielded ops (A β).tmps) = true)
    (hr : ∀ β L w, SInv w0 bs gs β L w → At ops L i → S w → ∀ K' : Act → World → Prop, Hid (∀ v w', Below w.heap.size w w' → G v w' → K' ((A β).put o.dst v) w') → o.wp P (A β) w K' (fun _ _ _ => False))
    (rest : Flow P ops (SInv w0 bs gs) K l (i + 1) (fun β => (A β).put o.dst (β i))) : Flow P ops (SInv w0 bs gs) K (o :: l) i A := by
  have hbx : ∀ b ∈ bs, b.k ≠ i ∧ b.s ≠ some i := fun b hb => by
    have := List.all_eq_true.1 hb0 b hb
    simpa using this
  refine ⟨fun β => β i, ⟨fun β k b hk => ?_, fun β L w h hat => .inl ⟨hw β, ?_⟩⟩, rest⟩
  · refine updG_ne β b fun e => ?_
    subst e
    cases hs : ops.size <;> rw [hs] at hk <;> simp [reach] at hk
  · refine hr β L w h hat (hS w h.below) _ fun v w' hb hg => ⟨v, by show _ = (A β).put o.dst (updG β i v i); rw [updG_at], ?_⟩
    have hs := h.below.size
    refine ⟨h.below.trans (hb.mono hs), fun b hbm hL' => ?_, fun b hbm b' hbm' hne hL1 hL2 => ?_, fun g hgm hL' => ?_⟩
    · rw [setL_ne L (hbx b hbm).1] at hL'
      rw [updG_ne β v (hbx b hbm).1]
      obtain ⟨h1, h2, h3, h4⟩ := h.box b hbm hL'
      refine ⟨h1, h2, Nat.lt_of_lt_of_le h3 hb.size, ?_⟩
      rw [cells_ne (hbx b hbm).2]
      exact h4.later hb
    · rw [setL_ne L (hbx b hbm).1] at hL1
      rw [setL_ne L (hbx b' hbm').1] at hL2
      rw [updG_ne β v (hbx b hbm).1, updG_ne β v (hbx b' hbm').1]
      exact h.apart b hbm b' hbm' hne hL1 hL2
    · by_cases e : g.1 = i
      · rw [hG g hgm e]
        show G (updG β i v i) w'
        rw [updG_at]
        exact hg
      · rw [setL_ne L e] at hL'
        rw [updG_ne β v e]
        exact hst g hgm _ _ _ (h.ghost g hgm hL') hb
theorem setCells_heap : ∀ (vs : List Value) (n k : Nat) (w : World), (w.setCells n k vs).heap.size = w.heap.size
  | [], _, _, _ => rfl
  | v :: vs, n, k, w => by
    show ((w.setCell ⟨n, k, none⟩ v).setCells n (k + 1) vs).heap.size = _
    rw [setCells_heap vs]
    simp
theorem below_setCells {B : Nat} {a : World} : ∀ (vs : List Value) (n k : Nat) (x : World), Below B a x → B ≤ n → Below B a (x.setCells n k vs)
  | [], _, _, _, h, _ => h
  | v :: vs, n, k, _, h, hn => below_setCells vs n (k + 1) _ (h.setCell hn v) hn
theorem BoxAt.alloc {w : World} {n : Nat} {cs : List Value} (h : BoxAt w n cs) (ob : Obj) : BoxAt (w.alloc ob) n cs :=
  h.later ((Below.refl _ _).alloc (Nat.le_refl _) ob)
theorem BoxAt.new (w : World) (cs : List Value) (T : TypeId) : BoxAt (w.alloc (.cells cs.toArray T)) w.heap.size cs := fun _ _ h => by
  refine ⟨?_, ?_⟩
  · rw [World.cell?_alloc_new]
    simpa using h
  · exact World.frozen?_alloc_new _ _ _ _
theorem BoxAt.other {w : World} {n m : Nat} {cs vs : List Value} (h : BoxAt w n cs) (hne : n ≠ m) : BoxAt (w.setCells m 0 vs) n cs := fun o v ho => by
  refine ⟨?_, ?_⟩
  · rw [World.cell?_setCells_out _ _ _ _ _ (fun e => absurd e hne)]
    exact (h o v ho).1
  · rw [World.frozen?_setCells]
    exact (h o v ho).2
theorem BoxAt.stored {w : World} {n : Nat} {cs vs : List Value} (h : BoxAt w n cs) (hl : vs.length = cs.length) : BoxAt (w.setCells n 0 vs) n vs := fun o v ho => by
  have hlt : o < vs.length := by
    rcases Nat.lt_or_ge o vs.length with h' | h'
    · exact h'
    · rw [List.getElem?_eq_none h'] at ho; cases ho
  have hcs : ∀ j, j < vs.length → (w.cell? ⟨n, 0 + j, none⟩).isSome = true := fun j hj => by
    have := (h j (cs[j]'(by omega)) (List.getElem?_eq_getElem (by omega))).1
    rw [Nat.zero_add, this]
    rfl
  refine ⟨?_, ?_⟩
  · have := World.cell?_setCells_in n vs 0 w hcs o hlt
    rw [Nat.zero_add] at this
    rw [this, ← ho, List.getElem?_eq_getElem hlt]
  · rw [World.frozen?_setCells]
    exact (h o (cs[o]'(by omega)) (List.getElem?_eq_getElem (by omega))).2

theorem nodup_k : ∀ {bs : List Bx}, (bs.map Bx.k).Nodup → ∀ {b b' : Bx}, b ∈ bs → b' ∈ bs → b.k = b'.k → b = b'
  | [], _, _, _, h, _, _ => absurd h (by simp)
  | c :: cs, hn, b, b', h, h', e => by
    rw [List.map_cons, List.nodup_cons] at hn
    rcases List.mem_cons.1 h with h | h <;> rcases List.mem_cons.1 h' with h' | h'
    · rw [h, h']
    · exact absurd (List.mem_map.2 ⟨b', h', by rw [← e, h]⟩) hn.1
    · exact absurd (List.mem_map.2 ⟨b, h, by rw [e, h']⟩) hn.1
    · exact nodup_k hn.2 h h' e
/-- a block of a variable: made by operation k, filled by operation s -/
abbrev PB (k s : Nat) (zero new : List Value) : Bx := ⟨k, some s, fun n => .pointer (some ⟨n, 0, none⟩), zero, new⟩
/-- new memory -/
theorem Flow.make (hS : ∀ w, Below w0.heap.size w0 w → S w) (hst : StayG gs) (b0 : Bx) (T : TypeId) (hnd : (bs.map Bx.k).Nodup) (hm : b0 ∈ bs) (hk : b0.k = i) (hbs : (bs.all fun b => b.s != some i) = true) (hgs : (gs.all fun g => g.1 != i) = true)
    (hpre0 : b0.new = b0.zero ∨ ∃ s, b0.s = some s ∧ s < ops.size ∧ preOf ops i s = true) (hblk : ∀ n, blk (b0.shape n) = n)
    (hw : ∀ β, Region.wanted o (yielded ops (A β).tmps) = true)
    (hr : ∀ β w, S w → (execOp (A β).eval o).run P w = .ok (.value (b0.shape w.heap.size)) (w.alloc (.cells b0.zero.toArray T)))
    (rest : Flow P ops (SInv w0 bs gs) K l (i + 1) (fun β => (A β).put o.dst (β i))) : Flow P ops (SInv w0 bs gs) K (o :: l) i A := by
  have hs0 : ∀ b ∈ bs, b.s ≠ some i := fun b hb => by
    have := List.all_eq_true.1 hbs b hb
    simpa using this
  have hg0 : ∀ g ∈ gs, g.1 ≠ i := fun g hg => by
    have := List.all_eq_true.1 hgs g hg
    simpa using this
  have huniq : ∀ b ∈ bs, b.k = i → b = b0 := fun b hb e => nodup_k hnd hb hm (by rw [e, hk])
  refine ⟨fun β => β i, ⟨fun β k b hk' => ?_, fun β L w h hat => .inl ⟨hw β, ?_⟩⟩, rest⟩
  · refine updG_ne β b fun e => ?_
    subst e
    cases hs : ops.size <;> rw [hs] at hk' <;> simp [reach] at hk'
  · unfold Oper.wp
    rw [hr β w (hS w h.below)]
    refine ⟨b0.shape w.heap.size, by show _ = (A β).put o.dst (updG β i (b0.shape w.heap.size) i); rw [updG_at], ?_⟩
    have hb : Below w.heap.size w (w.alloc (.cells b0.zero.toArray T)) := (Below.refl _ _).alloc (Nat.le_refl _) _
    have hsz : (w.alloc (.cells b0.zero.toArray T)).heap.size = w.heap.size + 1 := by simp
    have hs := h.below.size
    refine ⟨h.below.trans (hb.mono hs), fun b hbm hL => ?_, fun b hbm b' hbm' hne hL hL' => ?_, fun g hg hL => ?_⟩
    · by_cases e : b.k = i
      · obtain rfl := huniq b hbm e
        rw [e, updG_at, hblk]
        refine ⟨rfl, hs, by omega, ?_⟩
        have hc : b.cells (setL L i) = b.zero := by
          unfold Bx.cells
          rcases hpre0 with h0 | ⟨s, h1, h2, h3⟩
          · rw [h0]
            cases b.s with
            | none => rfl
            | some s => cases hx : setL L i s <;> simp
          · have hLs : setL L i s = false := by
              rw [setL_ne L (fun e' => hs0 b hbm (by rw [h1, e']))]
              cases hLs : L s with
              | false => rfl
              | true =>
                have := hat.down s i hLs h2 h3
                rw [hat.un] at this
                cases this
            rw [h1]
            simp only [hLs]
            rfl
        rw [hc]
        exact BoxAt.new _ _ _
      · rw [setL_ne L e] at hL
        rw [updG_ne β _ e]
        obtain ⟨h1, h2, h3, h4⟩ := h.box b hbm hL
        refine ⟨h1, h2, by omega, ?_⟩
        rw [cells_ne (hs0 b hbm)]
        exact h4.later hb
    · by_cases e : b.k = i
      · have e' : b'.k ≠ i := fun e' => hne (by rw [e, e'])
        rw [setL_ne L e'] at hL'
        rw [updG_ne β _ e', e, updG_at, hblk]
        have := (h.box b' hbm' hL').2.2.1
        omega
      · rw [setL_ne L e] at hL
        rw [updG_ne β _ e]
        by_cases e' : b'.k = i
        · rw [e', updG_at, hblk]
          have := (h.box b hbm hL).2.2.1
          omega
        · rw [setL_ne L e'] at hL'
          rw [updG_ne β _ e']
          exact h.apart b hbm b' hbm' hne hL hL'
    · rw [setL_ne L (hg0 g hg)] at hL
      rw [updG_ne β _ (hg0 g hg)]
      exact hst g hg _ _ _ (h.ghost g hg hL) hb
/-- a store into new memory -/
theorem Flow.store (hS : ∀ w, Below w0.heap.size w0 w → S w) (hst : ∀ g ∈ gs, ∀ v w n cs, w0.heap.size ≤ n → g.2 v w → g.2 v (w.setCells n 0 cs)) (b0 : Bx) (hnd : (bs.map Bx.k).Nodup) (hm : b0 ∈ bs) (hk : b0.s = some i) (hl : b0.new.length = b0.zero.length)
    (huniq : (bs.all fun b => b.k == b0.k || b.s != some i) = true) (hki : (bs.all fun b => b.k != i) = true) (hgs : (gs.all fun g => g.1 != i) = true) (hpre : preOf ops b0.k i = true)
    (hw : ∀ β, Region.wanted o (yielded ops (A β).tmps) = true)
    (hr : ∀ β n w, S w → β b0.k = b0.shape n → (∀ o' v, b0.zero[o']? = some v → w.cell? ⟨n, o', none⟩ = some v ∧ w.frozen? ⟨n, o', none⟩ = false) → (execOp (A β).eval o).run P w = .ok .skip (w.setCells n 0 b0.new))
    (rest : Flow P ops (SInv w0 bs gs) K l (i + 1) (fun β => (A β).put o.dst undef)) : Flow P ops (SInv w0 bs gs) K (o :: l) i A := by
  have hs0 : ∀ b ∈ bs, b.k = b0.k ∨ b.s ≠ some i := fun b hb => by
    have := List.all_eq_true.1 huniq b hb
    simpa using this
  have hk0 : ∀ b ∈ bs, b.k ≠ i := fun b hb => by
    have := List.all_eq_true.1 hki b hb
    simpa using this
  have hg0 : ∀ g ∈ gs, g.1 ≠ i := fun g hg => by
    have := List.all_eq_true.1 hgs g hg
    simpa using this
  have hone : ∀ b ∈ bs, b.k = b0.k → b = b0 := fun b hb e => nodup_k hnd hb hm e
  refine ⟨fun _ => undef, ⟨fun _ _ _ _ => rfl, fun β L w h hat => .inl ⟨hw β, ?_⟩⟩, rest⟩
  have hLk := hat.pre _ hpre
  obtain ⟨h1, h2, h3, h4⟩ := h.box b0 hm hLk
  have hc : b0.cells L = b0.zero := by
    unfold Bx.cells
    rw [hk]
    simp only [hat.un]
    rfl
  rw [hc] at h4
  unfold Oper.wp
  rw [hr β _ w (hS w h.below) h1 h4]
  refine ⟨β i, rfl, ?_⟩
  rw [updG_self]
  refine ⟨below_setCells _ _ _ _ h.below h2, fun b hbm hL => ?_, fun b hbm b' hbm' hne hL hL' => ?_, fun g hg hL => ?_⟩
  · rw [setL_ne L (hk0 b hbm)] at hL
    obtain ⟨g1, g2, g3, g4⟩ := h.box b hbm hL
    refine ⟨g1, g2, by rw [setCells_heap]; exact g3, ?_⟩
    by_cases e : b.k = b0.k
    · obtain rfl := hone b hbm e
      have hc' : b.cells (setL L i) = b.new := by
        unfold Bx.cells
        rw [hk]
        simp only [setL_at]
        rfl
      rw [hc']
      exact h4.stored hl
    · rw [cells_ne ((hs0 b hbm).resolve_left e)]
      exact g4.other (h.apart b hbm b0 hm e hL hLk)
  · rw [setL_ne L (hk0 b hbm)] at hL
    rw [setL_ne L (hk0 b' hbm')] at hL'
    exact h.apart b hbm b' hbm' hne hL hL'
  · rw [setL_ne L (hg0 g hg)] at hL
    exact hst g hg _ _ _ _ h2 (h.ghost g hg hL)
theorem Flow.stop (h : K A) : Flow P ops (SInv w0 bs gs) K [] i A := h
/-- the region -/
theorem wp_flow_s {id : Nat} {Q : Exit → Act → World → Prop} {a : Act} {l : List Oper} (bs : List Bx) (gs : List Gx) (hm : P.follows .mixedOrders = true) (hok : flowOk l.toArray = true)
    (hin : ((bs.all fun b => decide (b.k < l.length)) && (gs.all fun g => decide (g.1 < l.length))) = true)
    (h : Flow P l.toArray (SInv w0 bs gs) (fun A => ∀ β w', SInv w0 bs gs β (fun _ => true) w' → Q .normal (A β) w') l 0 (fun _ => a)) : (Code.region id l.toArray true).wp P Q a w0 := by
  rw [Bool.and_eq_true] at hin
  refine wp_flow _ hm hok (fun _ => undef) ⟨(Below.refl _ _).drew, fun b hb hL => ?_, fun b hb _ _ _ hL _ => ?_, fun g hg hL => ?_⟩ h
  · have := List.all_eq_true.1 hin.1 b hb
    simp at this hL
    omega
  · have := List.all_eq_true.1 hin.1 b hb
    simp at this hL
    omega
  · have := List.all_eq_true.1 hin.2 g hg
    simp at this hL
    omega
/-- the region whose last operation writes: E is what it does to the world -/
theorem wp_flow_t {id : Nat} {Q : Exit → Act → World → Prop} {a : Act} {l : List Oper} {o : Oper} (bs : List Bx) (gs : List Gx) (E : World → World → Prop) (v : Value) (hm : P.follows .mixedOrders = true) (hok : flowOk (l ++ [o]).toArray = true)
    (hin : ((bs.all fun b => decide (b.k < l.length)) && (gs.all fun g => decide (g.1 < l.length))) = true) (hlast : lastOk (l ++ [o]).toArray l.length = true)
    (h : Flow P (l ++ [o]).toArray (SInv w0 bs gs) (fun A => ∀ β w', SInv w0 bs gs β (fun j => decide (j ≠ l.length)) w' →
        Region.wanted o (yielded (l ++ [o]).toArray (A β).tmps) = true ∧ (∀ K' : Act → World → Prop, Hid (∀ w'', E w' w'' → K' ((A β).put o.dst v) w'') → o.wp P (A β) w' K' (fun _ _ _ => False)) ∧ ∀ w'', E w' w'' → Q .normal ((A β).put o.dst v) w'') l 0 (fun _ => a)) :
    (Code.region id (l ++ [o]).toArray true).wp P Q a w0 := by
  rw [Bool.and_eq_true] at hin
  have ho : (l ++ [o]).toArray[l.length]? = some o := by simp
  refine wp_flow (tailI (SInv w0 bs gs) (fun β w'' => ∃ w', SInv w0 bs gs β (fun j => decide (j ≠ l.length)) w' ∧ E w' w'') l.length) hm hok (fun _ => undef) ?_ ?_
  · unfold tailI
    rw [if_neg (by simp)]
    refine ⟨(Below.refl _ _).drew, fun b hb hL => ?_, fun b hb _ _ _ hL _ => ?_, fun g hg hL => ?_⟩
    · have := List.all_eq_true.1 hin.1 b hb
      simp at this hL
      omega
    · have := List.all_eq_true.1 hin.1 b hb
      simp at this hL
      omega
    · have := List.all_eq_true.1 hin.2 g hg
      simp at this hL
      omega
  · refine Flow.tail hlast (fun A hA => ⟨fun _ => v, ⟨fun _ _ _ _ => rfl, fun β L w hI hat => ?_⟩, fun β w'' hT => ?_⟩) l 0 _ (by simp) h
    · have hL : L = fun j => decide (j ≠ l.length) := funext fun j => by
        rcases Nat.lt_trichotomy j l.length with hj | hj | hj
        · rw [hat.all ho hlast j hj, decide_eq_true (by omega)]
        · subst hj; rw [hat.un]; simp
        · rw [hat.out j (by simp; omega), decide_eq_true (by omega)]
      have hS : SInv w0 bs gs β (fun j => decide (j ≠ l.length)) w := by
        unfold tailI at hI
        rw [hat.un] at hI
        rw [← hL]
        exact hI
      obtain ⟨h1, h2, _⟩ := hA β w hS
      refine .inl ⟨h1, h2 _ fun w'' hE => ⟨β l.length, rfl, ?_⟩⟩
      unfold tailI
      rw [setL_at, if_pos rfl, updG_self]
      exact ⟨w, hS, hE⟩
    · unfold tailI at hT
      rw [if_pos rfl] at hT
      obtain ⟨w', hS, hE⟩ := hT
      exact (hA β w' hS).2.2 w'' hE
theorem wp_flow_n {id : Nat} {Q : Exit → Act → World → Prop} {a : Act} {l : List Oper} (n : Nat) (o : Oper) (bs : List Bx) (gs : List Gx) (E : World → World → Prop) (v : Value) (hl : l.drop n = [o]) (hm : P.follows .mixedOrders = true) (hok : flowOk l.toArray = true)
    (hin : ((bs.all fun b => decide (b.k < n)) && (gs.all fun g => decide (g.1 < n))) = true) (hlast : lastOk l.toArray n = true)
    (h : Flow P l.toArray (SInv w0 bs gs) (fun A => ∀ β w', SInv w0 bs gs β (fun j => decide (j ≠ n)) w' →
        Region.wanted o (yielded l.toArray (A β).tmps) = true ∧ (∀ K' : Act → World → Prop, Hid (∀ w'', E w' w'' → K' ((A β).put o.dst v) w'') → o.wp P (A β) w' K' (fun _ _ _ => False)) ∧ ∀ w'', E w' w'' → Q .normal ((A β).put o.dst v) w'') (l.take n) 0 (fun _ => a)) :
    (Code.region id l.toArray true).wp P Q a w0 := by
  have e : l = l.take n ++ [o] := by rw [← hl, List.take_append_drop]
  have hn : (l.take n).length = n := by
    have h1 := congrArg List.length hl
    simp at h1
    simp
    omega
  have e' : l.toArray = (l.take n ++ [o]).toArray := by rw [← e]
  rw [e'] at hok hlast h ⊢
  have := @wp_flow_t P w0 id Q a (l.take n) o bs gs E v hm hok (by rw [hn]; exact hin) (by rw [hn]; exact hlast) (by rw [hn]; exact h)
  exact this
end
end Go.Proofs.Ytgccankekflchaa

